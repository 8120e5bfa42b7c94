/- Several texts, joined for the limit of sixty files; each one opens with its own comment. -/
import Derived.Test.YtmpgmgjokliceaaGreatDoorJoin5
import Derived.Lib.Split
import Derived.Lib.SplitLaws
import Derived.Lib.Join
import Derived.Maps.AppendAt
/- Contracts of the reference's Right, Parts and Join. -/
set_option linter.unusedVariables false
set_option linter.unusedSimpArgs false
namespace Sw
open Go Go.RowKit
theorem spS_data (s : ByteArray) : (spS s).map (fun b : ByteArray => b.data.toList) = spL s.data.toList := by
  unfold spS
  rw [List.map_map]
  conv => rhs; rw [← List.map_id (spL s.data.toList)]
  exact List.map_congr_left fun a _ => data_mkB a
theorem spS_zero (s : ByteArray) (h : 0 < (spS s).length) : (spS s)[0] = headS s := by
  have h2 : (spS s)[0]? = some (headS s) := by
    unfold spS headS
    rw [← spL_head s.data.toList]
    rfl
  exact (List.getElem?_eq_some_iff.1 h2).2
theorem spL_size : ∀ (l : List UInt8), ∀ x ∈ spL l, x.length ≤ l.length
  | [], x, h => by
    rw [spL, List.mem_singleton] at h
    rw [h]
    simp
  | b :: l, x, h => by
    rw [spL] at h
    rw [List.length_cons]
    split at h
    · rcases List.mem_cons.1 h with rfl | h
      · simp
      · have := spL_size l x h; omega
    · rcases List.mem_cons.1 h with rfl | h
      · have hm : (spL l).headD [] ∈ spL l := by
          cases he : spL l with
          | nil => exact absurd he (spL_ne l)
          | cons a t => exact List.mem_cons_self
        have := spL_size l _ hm
        rw [List.length_cons]
        omega
      · have hm : x ∈ spL l := by
          rw [← spL_head l]
          exact List.mem_cons_of_mem _ h
        have := spL_size l x hm
        omega
theorem spS_size (s : ByteArray) : ∀ x ∈ spS s, x.size ≤ s.size := by
  intro x hx
  unfold spS at hx
  obtain ⟨a, ha, rfl⟩ := List.mem_map.1 hx
  have := spL_size s.data.toList a ha
  rw [mkB_size]
  have h : s.data.toList.length = s.size := by simp
  omega
theorem rightL_many {s : ByteArray} (h : 12 < (spS s).length) : rightL s.data.toList = false := by
  unfold spS at h
  rw [List.length_map] at h
  unfold rightL
  rw [decide_eq_false (show ¬ (spL s.data.toList).length ≤ 12 by omega)]
  simp
theorem rightL_badAt {s : ByteArray} {i : Nat} (h : i < (spS s).length) (hb : partL (spS s)[i].data.toList = false) : rightL s.data.toList = false :=
  rightL_bad (pre := (spS s).take i) (x := (spS s)[i]) (r := (spS s).drop (i + 1)) (by
    rw [List.append_assoc]
    conv => lhs; rw [← List.take_append_drop i (spS s), List.drop_eq_getElem_cons h]
    rfl) (.inl hb)
theorem jnL_take_le : ∀ (l : List (List UInt8)) (i : Nat), (jnL (l.take i)).length ≤ (jnL l).length
  | [], i => by simp
  | x :: l, 0 => by simp [jnL]
  | [x], i + 1 => by simp
  | x :: y :: l, i + 1 => by
    have := jnL_take_le (y :: l) i
    rw [List.take_succ_cons]
    by_cases h : (y :: l).take i = []
    · rw [h, jnL, jnL_cons x _ (by simp)]
      simp
    · rw [jnL_cons x _ h, jnL_cons x (y :: l) (by simp)]
      simp only [List.length_append, List.length_cons]
      omega
def dat (b : ByteArray) : List UInt8 := b.data.toList
end Sw
namespace Go.Proofs.YtmpgmgjokliceaaGreatDoor
open Go Go.RowKit
open Sw
set_option maxRecDepth 100000 in
set_option maxHeartbeats 4000000 in
theorem refRight_any (w : World) (s : ByteArray) (hs : s.size ≤ 100000) :
    Calls Tryz.prog 96 #[.string s] w fun e w' => e = .returned (.bool (rightL s.data.toList)) ∧ Below w.heap.size w w' := by
  have HS := Lib.hid (refSplit_any w s hs)
  have HP := Lib.hid refPart_any
  have hpos : 0 < (spS s).length := List.length_pos_iff.2 (spS_ne s)
  have hz := spS_zero s hpos
  have hres : ((headS s).toList == [46, 115, 119, 105, 110, 103, 108, 101]) = decide (headS s = mkB resL) := by
    rw [str_eq_iff]
    by_cases h : headS s = mkB resL
    · rw [decide_eq_true h, h, data_mkB]; rfl
    · rw [decide_eq_false h]
      refine decide_eq_false fun e => h ?_
      rw [← mkB_data (headS s), e]; rfl
  have hlen := spS_len s
  obtain ⟨U, hU⟩ : ∃ U, rightL s.data.toList = U := ⟨_, rfl⟩
  have hLong := fun (h : (200 : Int) < s.size) => rightL_long (s := s) (by omega)
  have hMany := fun (h : 12 < (spS s).length) => rightL_many h
  have hRes := fun (h : headS s = mkB resL) => rightL_res h
  have hBad := fun (i : Nat) (h : i < (spS s).length) (hb : partL (spS s)[i].data.toList = false) => rightL_badAt h hb
  have hGood := fun (h1 : s.size ≤ 200) (h2 : headS s ≠ mkB resL) (h3 : ∀ x ∈ spS s, partL x.data.toList = true) (h4 : (spS s).length ≤ 12) => rightL_good rfl h1 h2 h3 h4
  have hsz : ∀ x ∈ spS s, x.size ≤ 100000 := fun x hx => by
    have := spS_size s x hx
    omega
  rw [hU] at hLong hMany hRes hBad hGood ⊢
  clear hU
  generalize spS s = L at *
  have HX := Lib.hid (And.intro hMany (And.intro hBad (And.intro hGood hsz))); clear hMany hBad hGood hsz
  have HLO := Lib.hid hLong; clear hLong
  have HRE := Lib.hid hRes; clear hRes
  go_enter Tryz.func96, Tryz.ntmps96
  go_wp2_with fail
  refine HS.out.mono ?_
  rintro e w1 ⟨v, rfl, hown, hb1⟩
  obtain ⟨A, c, rfl, hc, hm, hsl⟩ := SlV.of_own hown bE_len (by omega)
  unfold maxLen at hm
  obtain ⟨b, off, rfl, hbb, hcs⟩ := hsl hpos
  have hc0 := hcs 0 hpos 0 (by omega)
  rw [hz] at hc0
  simp [bE] at hc0
  have HCS := Lib.hid hcs; clear hcs
  clear hz hown hsl HS
  obtain ⟨N, hN⟩ : ∃ N, L.length = N := ⟨_, rfl⟩
  have HN := Lib.hid hN
  rw [hN] at hc hpos hlen ⊢
  clear hN
  by_cases h1 : (200 : Int) < s.size
  · have HF := Lib.hid (HLO.out h1)
    go_wp2_with fail
    go_ret
    exact ⟨by rw [HF.out]; first | done | rfl, hb1⟩
  by_cases h2 : (12 : Int) < N
  · have HF := Lib.hid (HX.out.1 (by have := HN.out; omega))
    go_wp2_with fail
    go_ret
    exact ⟨by rw [HF.out]; first | done | rfl, hb1⟩
  by_cases h3 : headS s = mkB resL
  · have HF := Lib.hid (HRE.out h3)
    rw [decide_eq_true h3] at hres
    clear h3
    have hp0 : (0 : Int) < N := by omega
    go_wp2_with fail
    go_ret
    exact ⟨by rw [HF.out]; first | done | rfl, hb1⟩
  rw [decide_eq_false h3] at hres
  have H3 := Lib.hid h3; clear h3 HRE HLO
  have hp0 : (0 : Int) < N := by omega
  go_wp2_with fail
  go_loopw [2, 5, 24] (fun r _ iv wr => ∃ i : Nat, i ≤ N ∧ r = .bool false ∧ iv = .int .i64 i ∧ (∀ j (h : j < L.length), j < i → partL L[j].data.toList = true) ∧ w1 = wr) (fun _ _ iv _ => N - (intOf iv).toNat)
  case atStart => exact ⟨0, Nat.zero_le _, rfl, rfl, fun j h h' => by omega, rfl⟩
  case round =>
    obtain ⟨i, hi, rfl, rfl, hall, rfl⟩ := hrel
    by_cases hlt : i < N
    · have hiL : i < L.length := by have := HN.out; omega
      have hci := HCS.out i hiL 0 (by omega)
      have hsi := HX.out.2.2.2 L[i] (List.getElem_mem hiL)
      have hPi := HP.out w1 L[i] (by omega)
      have hbad := HX.out.2.1 i hiL
      simp [bE] at hci
      have HST := Lib.hid (fun (hp : partL L[i].data.toList = true) j (h : j < L.length) (hj : j < i + 1) => show partL L[j].data.toList = true by
        by_cases hji : j = i
        · subst hji; exact hp
        · exact hall j h (by omega))
      have hi1 : (i : Int) < N := by omega
      clear hall
      generalize partL L[i].data.toList = P at *
      have HPI := Lib.hid hPi; clear hPi
      have HB := Lib.hid hbad; clear hbad
      generalize L[i] = X at *
      cases P with
      | false =>
        have HF := Lib.hid (HB.out rfl)
        go_wp2_with fail
        refine HPI.out.mono ?_
        rintro e w2 ⟨rfl, rfl⟩
        go_wp2_with fail
        go_ret
        exact ⟨by rw [HF.out]; first | done | rfl, hb1⟩
      | true =>
        have HF := Lib.hid (HST.out rfl)
        go_wp2_with fail
        refine HPI.out.mono ?_
        rintro e w2 ⟨rfl, rfl⟩
        go_wp2_with fail
        go_roundw
        case rel => exact ⟨i + 1, by omega, rfl, by go_num, HF.out, by simp⟩
        case measure => simp [intOf]; omega
    · obtain rfl : i = N := by omega
      have HF := Lib.hid (HX.out.2.2.1 (by omega) H3.out (fun x hx => by
        obtain ⟨j, hj, rfl⟩ := List.getElem_of_mem hx
        exact hall j hj (by have := HN.out; omega)) (by have := HN.out; omega))
      clear hall hlt
      go_wp2_with fail
      go_ret
      exact ⟨by rw [HF.out]; first | done | rfl, hb1⟩
end Go.Proofs.YtmpgmgjokliceaaGreatDoor
/- Contracts of the reference's Join and Parts. -/
set_option linter.unusedVariables false
set_option linter.unusedSimpArgs false
namespace Sw
open Go Go.RowKit
/-- the texts' bytes -/
def datL (l : List ByteArray) : List (List UInt8) := l.map dat
theorem jn_zero (l : List ByteArray) (h : 0 < l.length) : (⟨#[]⟩ : ByteArray) ++ l[0] = mkB (jnL (datL (l.take 1))) := by
  cases l with
  | nil => exact absurd h (by simp)
  | cons x l =>
    have e : jnL (datL ((x :: l).take 1)) = x.data.toList := rfl
    rw [e, mkB_data]
    apply ByteArray.ext
    simp
theorem jn_step (l : List ByteArray) (i : Nat) (h0 : 0 < i) (h : i < l.length) : (mkB (jnL (datL (l.take i))) ++ (⟨#[47]⟩ : ByteArray)) ++ l[i] = mkB (jnL (datL (l.take (i + 1)))) := by
  have e : jnL (datL (l.take (i + 1))) = jnL (datL (l.take i)) ++ 47 :: l[i].data.toList := by
    unfold datL
    rw [List.take_succ_eq_append_getElem h, List.map_append, List.map_singleton, jnL_snoc _ _ (by
      intro e
      have := congrArg List.length e
      rw [List.length_map, List.length_take, List.length_nil] at this
      omega)]
    rfl
  rw [e]
  apply ByteArray.ext
  simp [mkB, ByteArray.data_append]
theorem own_base {w : World} {base base' : Nat} {e : TypeId} {size n : Nat} {v : Value} {xs : List Value} (h : w.ownsRow base e size v n xs) (hb : base' ≤ base) : w.ownsRow base' e size v n xs := by
  refine ⟨h.1, ?_⟩
  rcases h.2 with h2 | ⟨g, cap, cur, rfl, h3, h4⟩
  · exact .inl h2
  · exact .inr ⟨g, cap, cur, rfl, Nat.le_trans hb h3, h4⟩
end Sw
namespace Go.Proofs.YtmpgmgjokliceaaGreatDoor
open Go Go.RowKit
open Sw
set_option maxRecDepth 100000 in
set_option maxHeartbeats 4000000 in
theorem refJoin_any (w : World) (A : Option Addr) (n c : Nat) (l : List ByteArray) (hl : l.length = n) (hn : n ≤ maxLen) (hsl : SlOf w 1 bE A l) (htot : (jnL (datL l)).length ≤ 1000000) :
    Calls Tryz.prog 162 #[.slice A n c] w fun e w' => e = .returned (.string (mkB (jnL (datL l)))) ∧ w = w' := by
  unfold maxLen at hn
  have hall : ∀ i, (mkB (jnL (datL (l.take i)))).size ≤ 1000000 := fun i => by
    rw [mkB_size]
    have := jnL_take_le (datL l) i
    unfold datL at this htot ⊢
    rw [← List.map_take] at this
    omega
  have HALL := Lib.hid hall; clear hall
  have HS := Lib.hid hsl; clear hsl
  have HL := Lib.hid hl; clear hl
  go_enter Tryz.func162, Tryz.ntmps162
  go_wp2_with fail
  go_loopw [3, 4, 5, 8] (fun p _ _ iv wr => ∃ i : Nat, i ≤ n ∧ iv = .int .i64 i ∧ p = .string (mkB (jnL (datL (l.take i)))) ∧ w = wr) (fun _ _ _ iv _ => n - (intOf iv).toNat)
  case atStart => exact ⟨0, Nat.zero_le _, rfl, rfl, rfl⟩
  case round =>
    obtain ⟨i, hi, rfl, rfl, rfl⟩ := hrel
    by_cases hlt : i < n
    · have hiL : i < l.length := by have := HL.out; omega
      obtain ⟨b, off, rfl, hbb, hcs⟩ := HS.out (by omega)
      have hci := hcs i hiL 0 (by omega)
      simp [bE] at hci
      have hs1 := HALL.out (i + 1)
      have hs0 := HALL.out i
      have hi1 : (i : Int) < n := by omega
      clear hcs
      by_cases h0 : i = 0
      · subst h0
        rw [Nat.add_zero] at hci
        have hz := jn_zero l hiL
        have hsz : ((⟨#[]⟩ : ByteArray) ++ l[0]).size ≤ 1000000 := by rw [hz]; exact hs1
        rw [ByteArray.size_append] at hsz
        have e0 : mkB (jnL (datL (l.take 0))) = ⟨#[]⟩ := rfl
        have HZ := Lib.hid hz; clear hz
        rw [e0]
        clear e0 hs1 hs0
        generalize l[0] = X at *
        go_wp2_with fail
        go_roundw
        case rel => exact ⟨1, by omega, rfl, by rw [← HZ.out]; first | done | rfl, by simp⟩
        case measure => simp [intOf]; omega
      · have hz := jn_step l i (by omega) hiL
        have hsz : ((mkB (jnL (datL (l.take i))) ++ (⟨#[47]⟩ : ByteArray)) ++ l[i]).size ≤ 1000000 := by rw [hz]; exact hs1
        rw [ByteArray.size_append, ByteArray.size_append, show (⟨#[47]⟩ : ByteArray).size = 1 from rfl] at hsz
        have HZ := Lib.hid hz; clear hz
        have hp0 : (0 : Int) < i := by omega
        have hsz2 : (mkB (jnL (datL (l.take i))) ++ (⟨#[47]⟩ : ByteArray)).size = (mkB (jnL (datL (l.take i)))).size + 1 := by rw [ByteArray.size_append]; rfl
        clear hs1
        generalize l[i] = X at *
        generalize mkB (jnL (datL (l.take i))) = P at *
        go_wp2_with fail
        go_roundw
        case rel => exact ⟨i + 1, by omega, by go_num, by rw [HZ.out], by simp⟩
        case measure => simp [intOf]; omega
    · obtain rfl : i = n := by omega
      have ht : l.take i = l := List.take_of_length_le (by have := HL.out; omega)
      rw [ht]
      clear ht hlt
      go_wp2_with fail
      go_ret
      exact ⟨rfl, rfl⟩
/-- a path's parts, as texts -/
def partsS (s : ByteArray) : List ByteArray := if rightL s.data.toList = true then spS s else []
set_option maxRecDepth 100000 in
set_option maxHeartbeats 4000000 in
theorem refParts_any (w : World) (s : ByteArray) (hs : s.size ≤ 100000) :
    Calls Tryz.prog 157 #[.string s] w (StrPost (partsS s) w) := by
  have HR := Lib.hid (refRight_any w s hs)
  have HS := Lib.hid (fun W => refSplit_any W s hs)
  have hp : partsS s = if rightL s.data.toList = true then spS s else [] := rfl
  have HF := Lib.hid (fun v l w1 w' (hb1 : Below w.heap.size w w1) (hl : l = partsS s) (h : w'.ownsRow w1.heap.size 9 1 v l.length (l.flatMap bE)) (hb : Below w1.heap.size w1 w') => (show StrPost (partsS s) w (.returned v) w' from ⟨v, rfl, by rw [← hl]; exact own_base h hb1.size, hb1.trans (hb.mono hb1.size)⟩))
  generalize rightL s.data.toList = U at *
  cases U with
  | false =>
    have HP := Lib.hid (show partsS s = [] by rw [hp, if_neg (by simp)])
    clear hp
    go_enter Tryz.func157, Tryz.ntmps157
    go_wp2_with fail
    refine HR.out.mono ?_
    rintro e w1 ⟨rfl, hb1⟩
    have HFIN := Lib.hid (HF.out (.slice none 0 0) [] w1 w1 hb1 HP.out.symm ⟨rfl, .inl ⟨rfl, rfl⟩⟩ (Below.refl _ _))
    go_wp2_with fail
    go_ret
    exact HFIN.out
  | true =>
    have HP := Lib.hid (show partsS s = spS s by rw [hp, if_pos rfl])
    clear hp
    go_enter Tryz.func157, Tryz.ntmps157
    go_wp2_with fail
    refine HR.out.mono ?_
    rintro e w1 ⟨rfl, hb1⟩
    go_wp2_with fail
    refine (HS.out w1).mono ?_
    rintro e w2 ⟨v, rfl, h1, h2⟩
    have HFIN := Lib.hid (HF.out v (spS s) w1 w2 hb1 HP.out.symm h1 h2)
    clear h1 h2
    go_wp2_with fail
    go_ret
    exact HFIN.out
end Go.Proofs.YtmpgmgjokliceaaGreatDoor
/- The contract of strings.Split at a slash; name.Parts. -/
set_option linter.unusedVariables false
set_option linter.unusedSimpArgs false
namespace Sw
open Go Go.RowKit
theorem spL_count : ∀ l : List UInt8, (spL l).length = l.count 47 + 1
  | [] => rfl
  | b :: l => by
    have ih := spL_count l
    rw [spL]
    split
    · rename_i h
      rw [h, List.count_cons_self, List.length_cons, ih]
    · rename_i h
      rw [List.count_cons_of_ne h, ← ih]
      have h2 : (spL l).tail.length + 1 = (spL l).length := congrArg List.length (spL_head l)
      exact h2
theorem splitB_spS : ∀ (k : Nat) (s : ByteArray), (spS s).length ≤ k + 1 → Lib.splitB ⟨#[47]⟩ 0 k s = spS s
  | k, s, h => by
    have hix : Lib.indexB s ⟨#[47]⟩ = Lib.indexByte s.data.toList 47 := Lib.index_one _ _
    have hge := Lib.indexByte_ge s.data.toList 47
    obtain ⟨j, hj⟩ : ∃ j, Lib.indexByte s.data.toList 47 = j := ⟨_, rfl⟩
    by_cases h0 : j < 0
    · have hm : Lib.indexByte s.data.toList 47 = -1 := by omega
      rw [Lib.splitB_miss _ _ _ _ (by rw [hix, hm]), spS_miss hm]
    · obtain ⟨i, rfl⟩ := Int.eq_ofNat_of_zero_le (show 0 ≤ j by omega)
      obtain ⟨hiX, hhit⟩ := spS_hit hj
      rw [hhit, List.length_cons] at h
      have hp : 0 < (spS (s.extract (i + 1) s.size)).length := List.length_pos_iff.2 (spS_ne _)
      cases k with
      | zero => omega
      | succ k =>
        rw [Lib.splitB_hit _ _ _ _ i (by rw [hix, hj]), splitB_spS k _ (by
          have e : (⟨#[47]⟩ : ByteArray).size = 1 := rfl
          rw [e]; omega), hhit]
        rfl
theorem spS_count (s : ByteArray) : Lib.countB s ⟨#[47]⟩ + 1 = (spS s).length := by
  have h : Lib.countB s ⟨#[47]⟩ = s.data.toList.count 47 := Lib.count_one _ _
  unfold spS
  rw [h, List.length_map, spL_count]
end Sw
namespace Go.Proofs.YtmpgmgjokliceaaGreatDoor
open Go Go.RowKit
open Sw
set_option maxRecDepth 100000 in
set_option maxHeartbeats 1000000 in
theorem split_one (w : World) (s : ByteArray) (hs : s.size ≤ 100000) :
    Calls Tryz.prog 184 #[.string s, .string ⟨#[47]⟩] w fun e w' => e = .returned (.slice (some ⟨w.heap.size, 0, none⟩) (spS s).length (spS s).length) ∧ w' = w.alloc (.cells ((spS s).map Value.string).toArray 9) := by
  have hc := spS_count s
  have hsp := splitB_spS (Lib.countB s ⟨#[47]⟩) s (by omega)
  have hle := spS_len s
  have c := Any.strings_genSplit_core { Tryz.lays146 with } (by kernel_rfl) s ⟨#[47]⟩ 0 (-1) ((spS s).length) w (by omega) (by decide) (Nat.zero_le _)
    (fun x cc hx => (Tryz.strings_Index_one x 47 _).mono fun e w' h => ⟨by rw [h.1]; exact congrArg (fun z => Ending.returned (Value.int .i64 z)) (Lib.index_one _ _).symm, h.2⟩)
    ((Tryz.strings_Count_one s 47 w).mono fun e w' h => ⟨by rw [h.1]; exact congrArg (fun z : Nat => Ending.returned (Value.int .i64 (z : Int))) (Lib.count_one _ _).symm, h.2⟩)
    (by decide) (by decide) (by rw [if_pos (by decide)]; omega)
  rw [show (spS s).length - 1 = Lib.countB s ⟨#[47]⟩ by omega, hsp, Lib.cellsOf_full] at c
  have HC := Lib.hid c; clear c hc hsp
  go_enter Tryz.func184, Tryz.ntmps184
  go_wp2_with fail
  refine HC.out.mono ?_
  rintro e w' ⟨rfl, rfl⟩
  go_wp2_with fail
  go_ret
  exact ⟨rfl, rfl⟩
end Go.Proofs.YtmpgmgjokliceaaGreatDoor
/- Contracts of name.Join and what it calls. -/
set_option linter.unusedVariables false
set_option linter.unusedSimpArgs false
namespace Sw
open Go Go.RowKit
/-- has a text a slash? -/
def hasSl (x : ByteArray) : Bool := decide ((47 : UInt8) ∈ x.data.toList)
theorem hasSl_ix (x : ByteArray) : decide (0 ≤ Lib.indexByte x.data.toList 47) = hasSl x := by
  unfold hasSl
  rw [decide_eq_decide]
  have hge := Lib.indexByte_ge x.data.toList 47
  obtain ⟨j, hj⟩ : ∃ j, Lib.indexByte x.data.toList 47 = j := ⟨_, rfl⟩
  constructor
  · intro h
    obtain ⟨i, hi⟩ := Int.eq_ofNat_of_zero_le h
    obtain ⟨h1, h2, h3⟩ := slash_split hi
    rw [h2]
    simp
  · intro h
    by_cases h0 : 0 ≤ Lib.indexByte x.data.toList 47
    · exact h0
    · exact absurd h (slash_none (by omega))
theorem join_jnL : ∀ l : List (List UInt8), Lib.join l [47] = jnL l
  | [] => rfl
  | [x] => by rw [jnL]; unfold Lib.join; simp [List.intercalate, List.intersperse]
  | x :: y :: l => by
    have ih := join_jnL (y :: l)
    rw [jnL_cons x _ (by simp), ← ih]
    unfold Lib.join
    simp [List.intercalate, List.intersperse]
/-- what Join answers -/
def joinS (l : List ByteArray) : ByteArray := if (l.any hasSl || !rightL (jnL (datL l))) = true then ⟨#[]⟩ else mkB (jnL (datL l))
def joinB (l : List ByteArray) : Bool := !(l.any hasSl || !rightL (jnL (datL l)))
end Sw
namespace Go.Proofs.YtmpgmgjokliceaaGreatDoor
open Go Go.RowKit
open Sw
end Go.Proofs.YtmpgmgjokliceaaGreatDoor
/- Plain laws of name.Clean. -/
set_option linter.unusedVariables false
set_option linter.unusedSimpArgs false
namespace Sw
open Go Go.RowKit
/-- a part more, in a path that is made clean -/
def clStep (l : List ByteArray) (x : ByteArray) : Option (List ByteArray) := if x = ⟨#[]⟩ ∨ x = mkB [46] then some l else if x = mkB [46, 46] then (if l = [] then none else some l.dropLast) else some (l ++ [x])
def clFold : List ByteArray → List ByteArray → Option (List ByteArray)
  | l, [] => some l
  | l, x :: xs => match clStep l x with
    | none => none
    | some l' => clFold l' xs
theorem clFold_snoc (x : ByteArray) : ∀ (xs l : List ByteArray), clFold l (xs ++ [x]) = (clFold l xs).bind fun l' => clStep l' x
  | [], l => by
    show (match clStep l x with | none => none | some l' => clFold l' []) = clStep l x
    cases clStep l x <;> rfl
  | y :: xs, l => by
    show (match clStep l y with | none => none | some l' => clFold l' (xs ++ [x])) = (match clStep l y with | none => none | some l' => clFold l' xs).bind fun l' => clStep l' x
    cases clStep l y with
    | none => rfl
    | some l' => exact clFold_snoc x xs l'
theorem clFold_none (l : List ByteArray) (xs : List ByteArray) : ∀ (pre : List ByteArray) , clFold l pre = none → clFold l (pre ++ xs) = none := by
  intro pre
  induction pre generalizing l with
  | nil => intro h; cases h
  | cons y pre ih =>
    intro h
    show (match clStep l y with | none => none | some l' => clFold l' (pre ++ xs)) = none
    have h' : (match clStep l y with | none => none | some l' => clFold l' pre) = none := h
    cases hs : clStep l y with
    | none => rfl
    | some l' =>
      rw [hs] at h'
      exact ih l' h'
def wt (l : List ByteArray) : Nat := (l.map fun x => x.size + 1).sum
theorem wt_cons (x : ByteArray) (l : List ByteArray) : wt (x :: l) = x.size + 1 + wt l := by simp [wt]
theorem wt_snoc (l : List ByteArray) (x : ByteArray) : wt (l ++ [x]) = wt l + (x.size + 1) := by simp [wt]
theorem wt_drop (l : List ByteArray) : wt l.dropLast ≤ wt l := by
  by_cases h : l = []
  · subst h; simp
  · have := wt_snoc l.dropLast (l.getLast h)
    rw [List.dropLast_concat_getLast] at this
    omega
theorem clStep_wt {l l' : List ByteArray} {x : ByteArray} (h : clStep l x = some l') : wt l' ≤ wt l + (x.size + 1) := by
  unfold clStep at h
  split at h
  · injection h with h; subst h; omega
  · split at h
    · split at h
      · cases h
      · injection h with h; subst h; have := wt_drop l; omega
    · injection h with h; subst h; rw [wt_snoc]; omega
theorem clFold_wt : ∀ (xs l l' : List ByteArray), clFold l xs = some l' → wt l' ≤ wt l + wt xs
  | [], l, l', h => by
    have h : some l = some l' := h
    injection h with h
    subst h
    omega
  | x :: xs, l, l', h => by
    have h' : (match clStep l x with | none => none | some l' => clFold l' xs) = some l' := h
    cases hs : clStep l x with
    | none => rw [hs] at h'; cases h'
    | some l2 =>
      rw [hs] at h'
      have h1 := clStep_wt hs
      have h2 := clFold_wt xs l2 l' h'
      rw [wt_cons]
      omega
theorem clStep_len {l l' : List ByteArray} {x : ByteArray} (h : clStep l x = some l') : l'.length ≤ l.length + 1 := by
  unfold clStep at h
  split at h
  · injection h with h; subst h; omega
  · split at h
    · split at h
      · cases h
      · injection h with h; subst h; rw [List.length_dropLast]; omega
    · injection h with h; subst h; simp
theorem clFold_len : ∀ (xs l l' : List ByteArray), clFold l xs = some l' → l'.length ≤ l.length + xs.length
  | [], l, l', h => by
    have h : some l = some l' := h
    injection h with h
    subst h
    simp
  | x :: xs, l, l', h => by
    have h' : (match clStep l x with | none => none | some l' => clFold l' xs) = some l' := h
    cases hs : clStep l x with
    | none => rw [hs] at h'; cases h'
    | some l2 =>
      rw [hs] at h'
      have h1 := clStep_len hs
      have h2 := clFold_len xs l2 l' h'
      rw [List.length_cons]
      omega
theorem spL_wt : ∀ l : List UInt8, ((spL l).map fun x => x.length + 1).sum = l.length + 1
  | [] => rfl
  | b :: l => by
    have ih := spL_wt l
    rw [spL]
    split
    · rw [List.map_cons, List.sum_cons, ih, List.length_cons, List.length_nil]; omega
    · rw [← spL_head l, List.map_cons, List.sum_cons] at ih
      rw [List.map_cons, List.sum_cons, List.length_cons, List.length_cons]
      omega
theorem spS_wt (s : ByteArray) : wt (spS s) = s.size + 1 := by
  unfold wt spS
  rw [List.map_map]
  have h : (spL s.data.toList).map ((fun x : ByteArray => x.size + 1) ∘ mkB) = (spL s.data.toList).map fun x => x.length + 1 := List.map_congr_left fun a _ => by
    show (mkB a).size + 1 = a.length + 1
    rw [mkB_size]
  rw [h, spL_wt]
  simp
theorem wt_jn : ∀ l : List ByteArray, (jnL (datL l)).length ≤ wt l
  | [] => by simp [datL, jnL, wt]
  | [x] => by
    have h : x.data.toList.length = x.size := by simp
    show x.data.toList.length ≤ _
    rw [wt_cons]; omega
  | x :: y :: l => by
    have ih := wt_jn (y :: l)
    have h : x.data.toList.length = x.size := by simp
    have e : jnL (datL (x :: y :: l)) = x.data.toList ++ 47 :: jnL (datL (y :: l)) := jnL_cons _ _ (by simp [datL])
    rw [e, wt_cons, List.length_append, List.length_cons]
    omega
theorem wt_len : ∀ l : List ByteArray, l.length ≤ wt l
  | [] => by simp [wt]
  | x :: l => by
    have := wt_len l
    rw [wt_cons, List.length_cons]
    omega
/-- what is refused at once -/
def bad0 (s : ByteArray) : Bool := Lib.hasPrefix s.data.toList [47] || decide (0 ≤ Lib.indexByte s.data.toList 0)
def cleanO (s : ByteArray) : Option (List ByteArray) := if bad0 s = true then none else clFold [] (spS s)
def cleanS (s : ByteArray) : ByteArray := match cleanO s with
  | none => ⟨#[]⟩
  | some l => joinS l
def cleanB (s : ByteArray) : Bool := match cleanO s with
  | none => false
  | some l => joinB l
theorem own_same {w w' : World} {base : Nat} {e : TypeId} {size n : Nat} {v : Value} {xs : List Value} (h : w.ownsRow base e size v n xs) (he : ∀ k, some k = v.ownBlock → w'.heap[k]? = w.heap[k]?) : w'.ownsRow base e size v n xs := by
  refine ⟨h.1, ?_⟩
  rcases h.2 with h2 | ⟨g', cap, cur, rfl, h3, h4, h5⟩
  · exact .inl h2
  · exact .inr ⟨g', cap, cur, rfl, h3, (he g' rfl).trans h4, h5⟩
theorem own_pop {w : World} {base : Nat} {e : TypeId} {v : Value} {n : Nat} {xs : List Value} {x : Value} (h : w.ownsRow base e 1 v (n + 1) (xs ++ [x])) : ∃ g cap, v = .slice (some ⟨g, 0, none⟩) (n + 1) cap ∧ n + 1 ≤ cap ∧ cap ≤ maxLen ∧ w.ownsRow base e 1 (.slice (some ⟨g, 0, none⟩) n cap) n xs := by
  have hl := h.1
  rw [List.length_append, List.length_singleton] at hl
  rcases h.2 with ⟨_, h0⟩ | ⟨g, cap, cur, rfl, hb, hh, hc, hm, hsz, hx⟩
  · omega
  · refine ⟨g, cap, rfl, hc, hm, by omega, .inr ⟨g, cap, cur, rfl, hb, hh, by omega, hm, hsz, ?_⟩⟩
    have hxl : xs.length = n * 1 := by omega
    have h2 := congrArg (List.take (n * 1)) hx
    rw [List.take_take, Nat.min_eq_left (by omega), List.take_append_of_le_length (by omega), List.take_of_length_le (l := xs) (by omega)] at h2
    exact h2
theorem own_ownM {W W' : World} {row : Option Nat} {Mine : Nat → Prop} {B base : Nat} {e : TypeId} {size n : Nat} {v : Value} {xs : List Value} (h : W.ownsRow base e size v n xs) (hm : ∀ k, Mine k → k < base) (hg : W.grownBy W' row) (hr : ∀ r, row = some r → Mine r ∨ (B ≤ r ∧ ∃ o : Obj, W.heap[r]? = some o ∧ o.isCells = false)) : W'.ownsRow base e size v n xs := by
  refine own_same h fun k hk => ?_
  rcases h.2 with ⟨rfl, _⟩ | ⟨g, cap, cur, rfl, hb, hh, _⟩
  · cases hk
  · injection hk with hk
    subst hk
    refine hg.block k (Array.getElem?_eq_some_iff.1 hh).1 (fun e => ?_)
    rcases hr k e.symm with h1 | ⟨_, o, ho, hc⟩
    · have := hm k h1; omega
    · rw [hh] at ho; cases ho; cases hc
theorem keeps_own {W W' : World} {base : Nat} {e : TypeId} {size n : Nat} {v : Value} {xs : List Value} (h : W.ownsRow base e size v n xs) (hg : W.grownBy W' v.ownBlock) : KeepsOthers W W' :=
  ⟨hg.size, fun k o hk hc => by
    refine (hg.block k (Array.getElem?_eq_some_iff.1 hk).1 (fun e => ?_)).trans hk
    rcases h.2 with ⟨rfl, _⟩ | ⟨g, cap, cur, rfl, hb, hh, _⟩
    · cases e
    · injection e with e
      subst e
      rw [hh] at hk
      cases hk
      cases hc⟩
end Sw
/- The contract of name.Clean. -/
set_option linter.unusedVariables false
set_option linter.unusedSimpArgs false
namespace Go.Proofs.YtmpgmgjokliceaaGreatDoor
open Go Go.RowKit Go.Shelf
open Sw
attribute [local go_sem] Oper.semAt_some
theorem res_str_bool {P : Program} {fn : Func} {p q : Tmp} {ty t1 : TypeId} (h : fn.results = #[.cell p ty, .cell q t1]) (tmps : Array Value) (w : World) (g g1 : Nat) (u u1 : TypeId) (s : ByteArray) (b : Bool)
    (hp : tmps.getD p undef = .pointer (some ⟨g, 0, none⟩)) (hq : tmps.getD q undef = .pointer (some ⟨g1, 0, none⟩)) (hg : Blk w g u #[.string s]) (hg1 : Blk w g1 u1 #[.bool b]) (hu : P.underlying ty = some .string) (hu1 : P.underlying t1 = some .bool) :
    (results fn tmps).run P w = .ok (.tuple #[.string s, .bool b]) w := by
  have hp' : tmps[p]?.getD undef = .pointer (some ⟨g, 0, none⟩) := by simpa using hp
  have hq' : tmps[q]?.getD undef = .pointer (some ⟨g1, 0, none⟩) := by simpa using hq
  have c1 : w.cell? ⟨g, 0, none⟩ = some (.string s) := by have := hg.cell 0; simpa using this
  have c2 : w.cell? ⟨g1, 0, none⟩ = some (.bool b) := by have := hg1.cell 0; simpa using this
  have l1 : (loadVar ty ⟨g, 0, none⟩).run P w = .ok (.string s) w := by simp [loadVar, isAgg, run_underlying hu, run_load, c1]
  have l2 : (loadVar t1 ⟨g1, 0, none⟩).run P w = .ok (.bool b) w := by simp [loadVar, isAgg, run_underlying hu1, run_load, c2]
  simp [results, h, hp', hq', asAddr, l1, l2]
theorem str_empty (x : ByteArray) : x.toList.isEmpty = decide (x = ⟨#[]⟩) := by
  rw [ByteArray.toList_eq]
  by_cases h : x = ⟨#[]⟩
  · subst h; rfl
  · rw [decide_eq_false h]
    cases hd : x.data.toList with
    | nil => exact absurd (by rw [← mkB_data x, hd]; rfl) h
    | cons a t => rfl
theorem str_is (x : ByteArray) (l : List UInt8) : (x.toList == l) = decide (x = mkB l) := by
  rw [str_eq_iff, decide_eq_decide]
  constructor
  · intro h; rw [← mkB_data x, h]
  · intro h; rw [h, data_mkB]
/-- what Clean knows between two rounds -/
def ClI (s : ByteArray) (T B : Nat) (pre : List (Pc s.size)) (W : World) : Prop :=
  (∃ l v, clFold [] (pre.map (·.1)) = some l ∧ Blk W (T + 1 + 1) 24 #[v] ∧ W.ownsRow B 9 1 v l.length (l.flatMap bE)) ∧ Blk W T 9 #[.string ⟨#[]⟩] ∧ Blk W (T + 1) 4 #[.bool false] ∧ B ≤ W.heap.size
/-- how Clean leaves a round -/
def ClX (s : ByteArray) (T : Nat) (c : Code) (pre : List (Pc s.size)) (W : World) : Prop :=
  clFold [] (pre.map (·.1)) = none ∧ c = .ret ∧ Blk W T 9 #[.string ⟨#[]⟩] ∧ Blk W (T + 1) 4 #[.bool false]
theorem clI_own {s : ByteArray} {T B M : Nat} (h1 : T + 1 + 1 < M) (h2 : M < B) : OwnM (fun k => k = M) B (ClI s T B) :=
  fun pre W W' row hs hg hr => by
    obtain ⟨⟨l, v, e1, e2, e3⟩, b1, b2, b3⟩ := hs
    exact ⟨⟨l, v, e1, blk_ownM e2 (by omega) hg hr, own_ownM e3 (fun k hk => by omega) hg hr⟩, blk_ownM b1 (by omega) hg hr, blk_ownM b2 (by omega) hg hr, Nat.le_trans b3 hg.size⟩
theorem clX_own {s : ByteArray} {T B M : Nat} (h1 : T + 1 < M) (c : Code) : OwnM (fun k => k = M) B (ClX s T c) :=
  fun pre W W' row hs hg hr => ⟨hs.1, hs.2.1, blk_ownM hs.2.2.1 (by omega) hg hr, blk_ownM hs.2.2.2 (by omega) hg hr⟩
end Go.Proofs.YtmpgmgjokliceaaGreatDoor
/- The contract of the reference's Clean. -/
set_option linter.unusedVariables false
set_option linter.unusedSimpArgs false
namespace Sw
open Go Go.RowKit
theorem ix_mem (l : List UInt8) (c : UInt8) : decide (0 ≤ Lib.indexByte l c) = decide (c ∈ l) := by
  rw [decide_eq_decide]
  constructor
  · intro h
    obtain ⟨i, hi⟩ := Int.eq_ofNat_of_zero_le h
    obtain ⟨h1, _⟩ := Lib.indexByte_some hi
    exact List.mem_of_getElem? h1
  · intro h
    by_cases h0 : 0 ≤ Lib.indexByte l c
    · exact h0
    · have hge := Lib.indexByte_ge l c
      obtain ⟨k, hk, hke⟩ := List.getElem_of_mem h
      exact absurd (by rw [List.getElem?_eq_getElem hk, hke]) (Lib.indexByte_none (show Lib.indexByte l c = -1 by omega) k)
theorem pre_47 (l : List UInt8) : Lib.hasPrefix l [47] = decide (l.head? = some 47) := by
  cases l with
  | nil => rfl
  | cons a l =>
    show List.isPrefixOf [47] (a :: l) = _
    by_cases h : a = 47
    · subst h; simp [List.isPrefixOf]
    · rw [decide_eq_false (by simpa using h)]
      simp [List.isPrefixOf]
      exact fun e => h e.symm
theorem bad0_eq (s : ByteArray) : bad0 s = (decide (s.data.toList.head? = some 47) || decide ((0 : UInt8) ∈ s.data.toList)) := by
  unfold bad0
  rw [pre_47, ix_mem]
theorem clStep_no {l l' : List ByteArray} {x : ByteArray} (hl : ∀ y ∈ l, hasSl y = false) (hx : hasSl x = false) (h : clStep l x = some l') : ∀ y ∈ l', hasSl y = false := by
  unfold clStep at h
  split at h
  · injection h with h; subst h; exact hl
  · split at h
    · split at h
      · cases h
      · injection h with h; subst h; exact fun y hy => hl y (List.dropLast_subset l hy)
    · injection h with h; subst h
      intro y hy
      rcases List.mem_append.1 hy with h | h
      · exact hl y h
      · rw [List.mem_singleton] at h; rw [h]; exact hx
theorem clFold_no : ∀ (xs l l' : List ByteArray), (∀ y ∈ l, hasSl y = false) → (∀ y ∈ xs, hasSl y = false) → clFold l xs = some l' → ∀ y ∈ l', hasSl y = false
  | [], l, l', hl, _, h => by
    have h : some l = some l' := h
    injection h with h
    subst h
    exact hl
  | x :: xs, l, l', hl, hx, h => by
    have h' : (match clStep l x with | none => none | some l' => clFold l' xs) = some l' := h
    cases hs : clStep l x with
    | none => rw [hs] at h'; cases h'
    | some l2 =>
      rw [hs] at h'
      exact clFold_no xs l2 l' (clStep_no hl (hx x (by simp)) hs) (fun y hy => hx y (List.mem_cons_of_mem _ hy)) h'
theorem spS_no (s : ByteArray) : ∀ y ∈ spS s, hasSl y = false := by
  intro y hy
  unfold spS at hy
  obtain ⟨a, ha, rfl⟩ := List.mem_map.1 hy
  unfold hasSl
  rw [data_mkB]
  exact decide_eq_false (spL_no _ a ha)
theorem rightL_nil : rightL [] = false := by decide
/-- what comes of the parts that are left -/
theorem clean_some {s : ByteArray} {l : List ByteArray} (h : cleanO s = some l) : (rightL (jnL (datL l)) = true → l ≠ [] ∧ cleanS s = mkB (jnL (datL l)) ∧ cleanB s = true) ∧ (rightL (jnL (datL l)) = false → cleanS s = ⟨#[]⟩ ∧ cleanB s = false) := by
  have hno : l.any hasSl = false := by
    unfold cleanO at h
    split at h
    · cases h
    · rw [List.any_eq_false]
      intro y hy
      rw [clFold_no _ _ _ (by simp) (spS_no s) h y hy]
      simp
  have e1 : cleanS s = joinS l := by unfold cleanS; rw [h]
  have e2 : cleanB s = joinB l := by unfold cleanB; rw [h]
  rw [e1, e2]
  unfold joinS joinB
  rw [hno]
  refine ⟨fun hr => ⟨fun e => ?_, ?_, ?_⟩, fun hr => ⟨?_, ?_⟩⟩
  · subst e
    have : rightL (jnL (datL [])) = rightL [] := rfl
    rw [this, rightL_nil] at hr
    cases hr
  all_goals rw [hr]; rfl
end Sw
namespace Go.Proofs.YtmpgmgjokliceaaGreatDoor
open Go Go.RowKit
open Sw
end Go.Proofs.YtmpgmgjokliceaaGreatDoor
