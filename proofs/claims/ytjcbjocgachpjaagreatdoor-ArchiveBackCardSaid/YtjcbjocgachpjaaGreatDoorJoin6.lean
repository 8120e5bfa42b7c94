/- Several texts, joined for the limit of sixty files; each one opens with its own comment. -/
import Derived.Test.YtjcbjocgachpjaaGreatDoorJoin5
import Derived.Lib.Split
import Derived.Lib.SplitLaws
import Derived.Lib.Join
import Derived.Maps.AppendAt
import Derived.Test.YtjcbjocgachpjaaGreatDoorJoin1
import Derived.Lib.LastIndexByte
/- Contracts of the reference's Right, Parts and Join. -/
set_option linter.unusedVariables false
set_option linter.unusedSimpArgs false
namespace Sw
open Go Go.RowKit
theorem spS_data (s : ByteArray) : (spS s).map (fun b : ByteArray => b.data.toList) = spL s.data.toList := by
  unfold spS
  rw [List.map_map]
  conv => rhs; rw [← List.map_id (spL s.data.toList)]
  exact List.map_congr_left fun a _ => data_mkB a
theorem spS_zero (s : ByteArray) (h : 0 < (spS s).length) : (spS s)[0] = headS s := by
  have h2 : (spS s)[0]? = some (headS s) := by
    unfold spS headS
    rw [← spL_head s.data.toList]
    rfl
  exact (List.getElem?_eq_some_iff.1 h2).2
theorem spL_size : ∀ (l : List UInt8), ∀ x ∈ spL l, x.length ≤ l.length
  | [], x, h => by
    rw [spL, List.mem_singleton] at h
    rw [h]
    simp
  | b :: l, x, h => by
    rw [spL] at h
    rw [List.length_cons]
    split at h
    · rcases List.mem_cons.1 h with rfl | h
      · simp
      · have := spL_size l x h; omega
    · rcases List.mem_cons.1 h with rfl | h
      · have hm : (spL l).headD [] ∈ spL l := by
          cases he : spL l with
          | nil => exact absurd he (spL_ne l)
          | cons a t => exact List.mem_cons_self
        have := spL_size l _ hm
        rw [List.length_cons]
        omega
      · have hm : x ∈ spL l := by
          rw [← spL_head l]
          exact List.mem_cons_of_mem _ h
        have := spL_size l x hm
        omega
theorem spS_size (s : ByteArray) : ∀ x ∈ spS s, x.size ≤ s.size := by
  intro x hx
  unfold spS at hx
  obtain ⟨a, ha, rfl⟩ := List.mem_map.1 hx
  have := spL_size s.data.toList a ha
  rw [mkB_size]
  have h : s.data.toList.length = s.size := by simp
  omega
theorem rightL_many {s : ByteArray} (h : 12 < (spS s).length) : rightL s.data.toList = false := by
  unfold spS at h
  rw [List.length_map] at h
  unfold rightL
  rw [decide_eq_false (show ¬ (spL s.data.toList).length ≤ 12 by omega)]
  simp
theorem rightL_badAt {s : ByteArray} {i : Nat} (h : i < (spS s).length) (hb : partL (spS s)[i].data.toList = false) : rightL s.data.toList = false :=
  rightL_bad (pre := (spS s).take i) (x := (spS s)[i]) (r := (spS s).drop (i + 1)) (by
    rw [List.append_assoc]
    conv => lhs; rw [← List.take_append_drop i (spS s), List.drop_eq_getElem_cons h]
    rfl) (.inl hb)
theorem jnL_take_le : ∀ (l : List (List UInt8)) (i : Nat), (jnL (l.take i)).length ≤ (jnL l).length
  | [], i => by simp
  | x :: l, 0 => by simp [jnL]
  | [x], i + 1 => by simp
  | x :: y :: l, i + 1 => by
    have := jnL_take_le (y :: l) i
    rw [List.take_succ_cons]
    by_cases h : (y :: l).take i = []
    · rw [h, jnL, jnL_cons x _ (by simp)]
      simp
    · rw [jnL_cons x _ h, jnL_cons x (y :: l) (by simp)]
      simp only [List.length_append, List.length_cons]
      omega
def dat (b : ByteArray) : List UInt8 := b.data.toList
end Sw
namespace Go.Proofs.YtjcbjocgachpjaaGreatDoor
open Go Go.RowKit
open Sw
set_option maxRecDepth 100000 in
set_option maxHeartbeats 4000000 in
theorem refRight_any (w : World) (s : ByteArray) (hs : s.size ≤ 100000) :
    Calls Tryz.prog 66 #[.string s] w fun e w' => e = .returned (.bool (rightL s.data.toList)) ∧ Below w.heap.size w w' := by
  have HS := Lib.hid (refSplit_any w s hs)
  have HP := Lib.hid refPart_any
  have hpos : 0 < (spS s).length := List.length_pos_iff.2 (spS_ne s)
  have hz := spS_zero s hpos
  have hres : ((headS s).toList == [46, 115, 119, 105, 110, 103, 108, 101]) = decide (headS s = mkB resL) := by
    rw [str_eq_iff]
    by_cases h : headS s = mkB resL
    · rw [decide_eq_true h, h, data_mkB]; rfl
    · rw [decide_eq_false h]
      refine decide_eq_false fun e => h ?_
      rw [← mkB_data (headS s), e]; rfl
  have hlen := spS_len s
  obtain ⟨U, hU⟩ : ∃ U, rightL s.data.toList = U := ⟨_, rfl⟩
  have hLong := fun (h : (200 : Int) < s.size) => rightL_long (s := s) (by omega)
  have hMany := fun (h : 12 < (spS s).length) => rightL_many h
  have hRes := fun (h : headS s = mkB resL) => rightL_res h
  have hBad := fun (i : Nat) (h : i < (spS s).length) (hb : partL (spS s)[i].data.toList = false) => rightL_badAt h hb
  have hGood := fun (h1 : s.size ≤ 200) (h2 : headS s ≠ mkB resL) (h3 : ∀ x ∈ spS s, partL x.data.toList = true) (h4 : (spS s).length ≤ 12) => rightL_good rfl h1 h2 h3 h4
  have hsz : ∀ x ∈ spS s, x.size ≤ 100000 := fun x hx => by
    have := spS_size s x hx
    omega
  rw [hU] at hLong hMany hRes hBad hGood ⊢
  clear hU
  generalize spS s = L at *
  have HX := Lib.hid (And.intro hMany (And.intro hBad (And.intro hGood hsz))); clear hMany hBad hGood hsz
  have HLO := Lib.hid hLong; clear hLong
  have HRE := Lib.hid hRes; clear hRes
  go_enter Tryz.func66, Tryz.ntmps66
  go_wp2_with fail
  refine HS.out.mono ?_
  rintro e w1 ⟨v, rfl, hown, hb1⟩
  obtain ⟨A, c, rfl, hc, hm, hsl⟩ := SlV.of_own hown bE_len (by omega)
  unfold maxLen at hm
  obtain ⟨b, off, rfl, hbb, hcs⟩ := hsl hpos
  have hc0 := hcs 0 hpos 0 (by omega)
  rw [hz] at hc0
  simp [bE] at hc0
  have HCS := Lib.hid hcs; clear hcs
  clear hz hown hsl HS
  obtain ⟨N, hN⟩ : ∃ N, L.length = N := ⟨_, rfl⟩
  have HN := Lib.hid hN
  rw [hN] at hc hpos hlen ⊢
  clear hN
  by_cases h1 : (200 : Int) < s.size
  · have HF := Lib.hid (HLO.out h1)
    go_wp2_with fail
    go_ret
    exact ⟨by rw [HF.out]; first | done | rfl, hb1⟩
  by_cases h2 : (12 : Int) < N
  · have HF := Lib.hid (HX.out.1 (by have := HN.out; omega))
    go_wp2_with fail
    go_ret
    exact ⟨by rw [HF.out]; first | done | rfl, hb1⟩
  by_cases h3 : headS s = mkB resL
  · have HF := Lib.hid (HRE.out h3)
    rw [decide_eq_true h3] at hres
    clear h3
    have hp0 : (0 : Int) < N := by omega
    go_wp2_with fail
    go_ret
    exact ⟨by rw [HF.out]; first | done | rfl, hb1⟩
  rw [decide_eq_false h3] at hres
  have H3 := Lib.hid h3; clear h3 HRE HLO
  have hp0 : (0 : Int) < N := by omega
  go_wp2_with fail
  go_loopw [2, 5, 24] (fun r _ iv wr => ∃ i : Nat, i ≤ N ∧ r = .bool false ∧ iv = .int .i64 i ∧ (∀ j (h : j < L.length), j < i → partL L[j].data.toList = true) ∧ w1 = wr) (fun _ _ iv _ => N - (intOf iv).toNat)
  case atStart => exact ⟨0, Nat.zero_le _, rfl, rfl, fun j h h' => by omega, rfl⟩
  case round =>
    obtain ⟨i, hi, rfl, rfl, hall, rfl⟩ := hrel
    by_cases hlt : i < N
    · have hiL : i < L.length := by have := HN.out; omega
      have hci := HCS.out i hiL 0 (by omega)
      have hsi := HX.out.2.2.2 L[i] (List.getElem_mem hiL)
      have hPi := HP.out w1 L[i] (by omega)
      have hbad := HX.out.2.1 i hiL
      simp [bE] at hci
      have HST := Lib.hid (fun (hp : partL L[i].data.toList = true) j (h : j < L.length) (hj : j < i + 1) => show partL L[j].data.toList = true by
        by_cases hji : j = i
        · subst hji; exact hp
        · exact hall j h (by omega))
      have hi1 : (i : Int) < N := by omega
      clear hall
      generalize partL L[i].data.toList = P at *
      have HPI := Lib.hid hPi; clear hPi
      have HB := Lib.hid hbad; clear hbad
      generalize L[i] = X at *
      cases P with
      | false =>
        have HF := Lib.hid (HB.out rfl)
        go_wp2_with fail
        refine HPI.out.mono ?_
        rintro e w2 ⟨rfl, rfl⟩
        go_wp2_with fail
        go_ret
        exact ⟨by rw [HF.out]; first | done | rfl, hb1⟩
      | true =>
        have HF := Lib.hid (HST.out rfl)
        go_wp2_with fail
        refine HPI.out.mono ?_
        rintro e w2 ⟨rfl, rfl⟩
        go_wp2_with fail
        go_roundw
        case rel => exact ⟨i + 1, by omega, rfl, by go_num, HF.out, by simp⟩
        case measure => simp [intOf]; omega
    · obtain rfl : i = N := by omega
      have HF := Lib.hid (HX.out.2.2.1 (by omega) H3.out (fun x hx => by
        obtain ⟨j, hj, rfl⟩ := List.getElem_of_mem hx
        exact hall j hj (by have := HN.out; omega)) (by have := HN.out; omega))
      clear hall hlt
      go_wp2_with fail
      go_ret
      exact ⟨by rw [HF.out]; first | done | rfl, hb1⟩
end Go.Proofs.YtjcbjocgachpjaaGreatDoor
/- Contracts of the reference's Join and Parts. -/
set_option linter.unusedVariables false
set_option linter.unusedSimpArgs false
namespace Sw
open Go Go.RowKit
/-- the texts' bytes -/
def datL (l : List ByteArray) : List (List UInt8) := l.map dat
theorem jn_zero (l : List ByteArray) (h : 0 < l.length) : (⟨#[]⟩ : ByteArray) ++ l[0] = mkB (jnL (datL (l.take 1))) := by
  cases l with
  | nil => exact absurd h (by simp)
  | cons x l =>
    have e : jnL (datL ((x :: l).take 1)) = x.data.toList := rfl
    rw [e, mkB_data]
    apply ByteArray.ext
    simp
theorem jn_step (l : List ByteArray) (i : Nat) (h0 : 0 < i) (h : i < l.length) : (mkB (jnL (datL (l.take i))) ++ (⟨#[47]⟩ : ByteArray)) ++ l[i] = mkB (jnL (datL (l.take (i + 1)))) := by
  have e : jnL (datL (l.take (i + 1))) = jnL (datL (l.take i)) ++ 47 :: l[i].data.toList := by
    unfold datL
    rw [List.take_succ_eq_append_getElem h, List.map_append, List.map_singleton, jnL_snoc _ _ (by
      intro e
      have := congrArg List.length e
      rw [List.length_map, List.length_take, List.length_nil] at this
      omega)]
    rfl
  rw [e]
  apply ByteArray.ext
  simp [mkB, ByteArray.data_append]
theorem own_base {w : World} {base base' : Nat} {e : TypeId} {size n : Nat} {v : Value} {xs : List Value} (h : w.ownsRow base e size v n xs) (hb : base' ≤ base) : w.ownsRow base' e size v n xs := by
  refine ⟨h.1, ?_⟩
  rcases h.2 with h2 | ⟨g, cap, cur, rfl, h3, h4⟩
  · exact .inl h2
  · exact .inr ⟨g, cap, cur, rfl, Nat.le_trans hb h3, h4⟩
end Sw
namespace Go.Proofs.YtjcbjocgachpjaaGreatDoor
open Go Go.RowKit
open Sw
set_option maxRecDepth 100000 in
set_option maxHeartbeats 4000000 in
theorem refJoin_any (w : World) (A : Option Addr) (n c : Nat) (l : List ByteArray) (hl : l.length = n) (hn : n ≤ maxLen) (hsl : SlOf w 1 bE A l) (htot : (jnL (datL l)).length ≤ 1000000) :
    Calls Tryz.prog 107 #[.slice A n c] w fun e w' => e = .returned (.string (mkB (jnL (datL l)))) ∧ w = w' := by
  unfold maxLen at hn
  have hall : ∀ i, (mkB (jnL (datL (l.take i)))).size ≤ 1000000 := fun i => by
    rw [mkB_size]
    have := jnL_take_le (datL l) i
    unfold datL at this htot ⊢
    rw [← List.map_take] at this
    omega
  have HALL := Lib.hid hall; clear hall
  have HS := Lib.hid hsl; clear hsl
  have HL := Lib.hid hl; clear hl
  go_enter Tryz.func107, Tryz.ntmps107
  go_wp2_with fail
  go_loopw [3, 4, 5, 8] (fun p _ _ iv wr => ∃ i : Nat, i ≤ n ∧ iv = .int .i64 i ∧ p = .string (mkB (jnL (datL (l.take i)))) ∧ w = wr) (fun _ _ _ iv _ => n - (intOf iv).toNat)
  case atStart => exact ⟨0, Nat.zero_le _, rfl, rfl, rfl⟩
  case round =>
    obtain ⟨i, hi, rfl, rfl, rfl⟩ := hrel
    by_cases hlt : i < n
    · have hiL : i < l.length := by have := HL.out; omega
      obtain ⟨b, off, rfl, hbb, hcs⟩ := HS.out (by omega)
      have hci := hcs i hiL 0 (by omega)
      simp [bE] at hci
      have hs1 := HALL.out (i + 1)
      have hs0 := HALL.out i
      have hi1 : (i : Int) < n := by omega
      clear hcs
      by_cases h0 : i = 0
      · subst h0
        rw [Nat.add_zero] at hci
        have hz := jn_zero l hiL
        have hsz : ((⟨#[]⟩ : ByteArray) ++ l[0]).size ≤ 1000000 := by rw [hz]; exact hs1
        rw [ByteArray.size_append] at hsz
        have e0 : mkB (jnL (datL (l.take 0))) = ⟨#[]⟩ := rfl
        have HZ := Lib.hid hz; clear hz
        rw [e0]
        clear e0 hs1 hs0
        generalize l[0] = X at *
        go_wp2_with fail
        go_roundw
        case rel => exact ⟨1, by omega, rfl, by rw [← HZ.out]; first | done | rfl, by simp⟩
        case measure => simp [intOf]; omega
      · have hz := jn_step l i (by omega) hiL
        have hsz : ((mkB (jnL (datL (l.take i))) ++ (⟨#[47]⟩ : ByteArray)) ++ l[i]).size ≤ 1000000 := by rw [hz]; exact hs1
        rw [ByteArray.size_append, ByteArray.size_append, show (⟨#[47]⟩ : ByteArray).size = 1 from rfl] at hsz
        have HZ := Lib.hid hz; clear hz
        have hp0 : (0 : Int) < i := by omega
        have hsz2 : (mkB (jnL (datL (l.take i))) ++ (⟨#[47]⟩ : ByteArray)).size = (mkB (jnL (datL (l.take i)))).size + 1 := by rw [ByteArray.size_append]; rfl
        clear hs1
        generalize l[i] = X at *
        generalize mkB (jnL (datL (l.take i))) = P at *
        go_wp2_with fail
        go_roundw
        case rel => exact ⟨i + 1, by omega, by go_num, by rw [HZ.out], by simp⟩
        case measure => simp [intOf]; omega
    · obtain rfl : i = n := by omega
      have ht : l.take i = l := List.take_of_length_le (by have := HL.out; omega)
      rw [ht]
      clear ht hlt
      go_wp2_with fail
      go_ret
      exact ⟨rfl, rfl⟩
/-- a path's parts, as texts -/
def partsS (s : ByteArray) : List ByteArray := if rightL s.data.toList = true then spS s else []
set_option maxRecDepth 100000 in
set_option maxHeartbeats 4000000 in
theorem refParts_any (w : World) (s : ByteArray) (hs : s.size ≤ 100000) :
    Calls Tryz.prog 106 #[.string s] w (StrPost (partsS s) w) := by
  have HR := Lib.hid (refRight_any w s hs)
  have HS := Lib.hid (fun W => refSplit_any W s hs)
  have hp : partsS s = if rightL s.data.toList = true then spS s else [] := rfl
  have HF := Lib.hid (fun v l w1 w' (hb1 : Below w.heap.size w w1) (hl : l = partsS s) (h : w'.ownsRow w1.heap.size 9 1 v l.length (l.flatMap bE)) (hb : Below w1.heap.size w1 w') => (show StrPost (partsS s) w (.returned v) w' from ⟨v, rfl, by rw [← hl]; exact own_base h hb1.size, hb1.trans (hb.mono hb1.size)⟩))
  generalize rightL s.data.toList = U at *
  cases U with
  | false =>
    have HP := Lib.hid (show partsS s = [] by rw [hp, if_neg (by simp)])
    clear hp
    go_enter Tryz.func106, Tryz.ntmps106
    go_wp2_with fail
    refine HR.out.mono ?_
    rintro e w1 ⟨rfl, hb1⟩
    have HFIN := Lib.hid (HF.out (.slice none 0 0) [] w1 w1 hb1 HP.out.symm ⟨rfl, .inl ⟨rfl, rfl⟩⟩ (Below.refl _ _))
    go_wp2_with fail
    go_ret
    exact HFIN.out
  | true =>
    have HP := Lib.hid (show partsS s = spS s by rw [hp, if_pos rfl])
    clear hp
    go_enter Tryz.func106, Tryz.ntmps106
    go_wp2_with fail
    refine HR.out.mono ?_
    rintro e w1 ⟨rfl, hb1⟩
    go_wp2_with fail
    refine (HS.out w1).mono ?_
    rintro e w2 ⟨v, rfl, h1, h2⟩
    have HFIN := Lib.hid (HF.out v (spS s) w1 w2 hb1 HP.out.symm h1 h2)
    clear h1 h2
    go_wp2_with fail
    go_ret
    exact HFIN.out
end Go.Proofs.YtjcbjocgachpjaaGreatDoor
/- The contract of strings.Split at a slash; name.Parts. -/
set_option linter.unusedVariables false
set_option linter.unusedSimpArgs false
namespace Sw
open Go Go.RowKit
theorem spL_count : ∀ l : List UInt8, (spL l).length = l.count 47 + 1
  | [] => rfl
  | b :: l => by
    have ih := spL_count l
    rw [spL]
    split
    · rename_i h
      rw [h, List.count_cons_self, List.length_cons, ih]
    · rename_i h
      rw [List.count_cons_of_ne h, ← ih]
      have h2 : (spL l).tail.length + 1 = (spL l).length := congrArg List.length (spL_head l)
      exact h2
theorem splitB_spS : ∀ (k : Nat) (s : ByteArray), (spS s).length ≤ k + 1 → Lib.splitB ⟨#[47]⟩ 0 k s = spS s
  | k, s, h => by
    have hix : Lib.indexB s ⟨#[47]⟩ = Lib.indexByte s.data.toList 47 := Lib.index_one _ _
    have hge := Lib.indexByte_ge s.data.toList 47
    obtain ⟨j, hj⟩ : ∃ j, Lib.indexByte s.data.toList 47 = j := ⟨_, rfl⟩
    by_cases h0 : j < 0
    · have hm : Lib.indexByte s.data.toList 47 = -1 := by omega
      rw [Lib.splitB_miss _ _ _ _ (by rw [hix, hm]), spS_miss hm]
    · obtain ⟨i, rfl⟩ := Int.eq_ofNat_of_zero_le (show 0 ≤ j by omega)
      obtain ⟨hiX, hhit⟩ := spS_hit hj
      rw [hhit, List.length_cons] at h
      have hp : 0 < (spS (s.extract (i + 1) s.size)).length := List.length_pos_iff.2 (spS_ne _)
      cases k with
      | zero => omega
      | succ k =>
        rw [Lib.splitB_hit _ _ _ _ i (by rw [hix, hj]), splitB_spS k _ (by
          have e : (⟨#[47]⟩ : ByteArray).size = 1 := rfl
          rw [e]; omega), hhit]
        rfl
theorem spS_count (s : ByteArray) : Lib.countB s ⟨#[47]⟩ + 1 = (spS s).length := by
  have h : Lib.countB s ⟨#[47]⟩ = s.data.toList.count 47 := Lib.count_one _ _
  unfold spS
  rw [h, List.length_map, spL_count]
end Sw
namespace Go.Proofs.YtjcbjocgachpjaaGreatDoor
open Go Go.RowKit
open Sw
set_option maxRecDepth 100000 in
set_option maxHeartbeats 1000000 in
theorem split_one (w : World) (s : ByteArray) (hs : s.size ≤ 100000) :
    Calls Tryz.prog 97 #[.string s, .string ⟨#[47]⟩] w fun e w' => e = .returned (.slice (some ⟨w.heap.size, 0, none⟩) (spS s).length (spS s).length) ∧ w' = w.alloc (.cells ((spS s).map Value.string).toArray 9) := by
  have hc := spS_count s
  have hsp := splitB_spS (Lib.countB s ⟨#[47]⟩) s (by omega)
  have hle := spS_len s
  have c := Any.strings_genSplit_core { Tryz.lays146 with } (by kernel_rfl) s ⟨#[47]⟩ 0 (-1) ((spS s).length) w (by omega) (by decide) (Nat.zero_le _)
    (fun x cc hx => (Tryz.strings_Index_one x 47 _).mono fun e w' h => ⟨by rw [h.1]; exact congrArg (fun z => Ending.returned (Value.int .i64 z)) (Lib.index_one _ _).symm, h.2⟩)
    ((Tryz.strings_Count_one s 47 w).mono fun e w' h => ⟨by rw [h.1]; exact congrArg (fun z : Nat => Ending.returned (Value.int .i64 (z : Int))) (Lib.count_one _ _).symm, h.2⟩)
    (by decide) (by decide) (by rw [if_pos (by decide)]; omega)
  rw [show (spS s).length - 1 = Lib.countB s ⟨#[47]⟩ by omega, hsp, Lib.cellsOf_full] at c
  have HC := Lib.hid c; clear c hc hsp
  go_enter Tryz.func97, Tryz.ntmps97
  go_wp2_with fail
  refine HC.out.mono ?_
  rintro e w' ⟨rfl, rfl⟩
  go_wp2_with fail
  go_ret
  exact ⟨rfl, rfl⟩
end Go.Proofs.YtjcbjocgachpjaaGreatDoor
/- Contracts of name.Join and what it calls. -/
set_option linter.unusedVariables false
set_option linter.unusedSimpArgs false
namespace Sw
open Go Go.RowKit
end Sw
namespace Go.Proofs.YtjcbjocgachpjaaGreatDoor
open Go Go.RowKit
open Sw
end Go.Proofs.YtjcbjocgachpjaaGreatDoor
/- Plain laws of name.Clean. -/
set_option linter.unusedVariables false
set_option linter.unusedSimpArgs false
namespace Sw
open Go Go.RowKit
def wt (l : List ByteArray) : Nat := (l.map fun x => x.size + 1).sum
theorem wt_cons (x : ByteArray) (l : List ByteArray) : wt (x :: l) = x.size + 1 + wt l := by simp [wt]
theorem spL_wt : ∀ l : List UInt8, ((spL l).map fun x => x.length + 1).sum = l.length + 1
  | [] => rfl
  | b :: l => by
    have ih := spL_wt l
    rw [spL]
    split
    · rw [List.map_cons, List.sum_cons, ih, List.length_cons, List.length_nil]; omega
    · rw [← spL_head l, List.map_cons, List.sum_cons] at ih
      rw [List.map_cons, List.sum_cons, List.length_cons, List.length_cons]
      omega
theorem spS_wt (s : ByteArray) : wt (spS s) = s.size + 1 := by
  unfold wt spS
  rw [List.map_map]
  have h : (spL s.data.toList).map ((fun x : ByteArray => x.size + 1) ∘ mkB) = (spL s.data.toList).map fun x => x.length + 1 := List.map_congr_left fun a _ => by
    show (mkB a).size + 1 = a.length + 1
    rw [mkB_size]
  rw [h, spL_wt]
  simp
theorem wt_jn : ∀ l : List ByteArray, (jnL (datL l)).length ≤ wt l
  | [] => by simp [datL, jnL, wt]
  | [x] => by
    have h : x.data.toList.length = x.size := by simp
    show x.data.toList.length ≤ _
    rw [wt_cons]; omega
  | x :: y :: l => by
    have ih := wt_jn (y :: l)
    have h : x.data.toList.length = x.size := by simp
    have e : jnL (datL (x :: y :: l)) = x.data.toList ++ 47 :: jnL (datL (y :: l)) := jnL_cons _ _ (by simp [datL])
    rw [e, wt_cons, List.length_append, List.length_cons]
    omega
theorem wt_len : ∀ l : List ByteArray, l.length ≤ wt l
  | [] => by simp [wt]
  | x :: l => by
    have := wt_len l
    rw [wt_cons, List.length_cons]
    omega
theorem own_same {w w' : World} {base : Nat} {e : TypeId} {size n : Nat} {v : Value} {xs : List Value} (h : w.ownsRow base e size v n xs) (he : ∀ k, some k = v.ownBlock → w'.heap[k]? = w.heap[k]?) : w'.ownsRow base e size v n xs := by
  refine ⟨h.1, ?_⟩
  rcases h.2 with h2 | ⟨g', cap, cur, rfl, h3, h4, h5⟩
  · exact .inl h2
  · exact .inr ⟨g', cap, cur, rfl, h3, (he g' rfl).trans h4, h5⟩
theorem own_ownM {W W' : World} {row : Option Nat} {Mine : Nat → Prop} {B base : Nat} {e : TypeId} {size n : Nat} {v : Value} {xs : List Value} (h : W.ownsRow base e size v n xs) (hm : ∀ k, Mine k → k < base) (hg : W.grownBy W' row) (hr : ∀ r, row = some r → Mine r ∨ (B ≤ r ∧ ∃ o : Obj, W.heap[r]? = some o ∧ o.isCells = false)) : W'.ownsRow base e size v n xs := by
  refine own_same h fun k hk => ?_
  rcases h.2 with ⟨rfl, _⟩ | ⟨g, cap, cur, rfl, hb, hh, _⟩
  · cases hk
  · injection hk with hk
    subst hk
    refine hg.block k (Array.getElem?_eq_some_iff.1 hh).1 (fun e => ?_)
    rcases hr k e.symm with h1 | ⟨_, o, ho, hc⟩
    · have := hm k h1; omega
    · rw [hh] at ho; cases ho; cases hc
end Sw
/- The contract of name.Clean. -/
set_option linter.unusedVariables false
set_option linter.unusedSimpArgs false
namespace Go.Proofs.YtjcbjocgachpjaaGreatDoor
open Go Go.RowKit Go.Shelf
open Sw
attribute [local go_sem] Oper.semAt_some
theorem str_empty (x : ByteArray) : x.toList.isEmpty = decide (x = ⟨#[]⟩) := by
  rw [ByteArray.toList_eq]
  by_cases h : x = ⟨#[]⟩
  · subst h; rfl
  · rw [decide_eq_false h]
    cases hd : x.data.toList with
    | nil => exact absurd (by rw [← mkB_data x, hd]; rfl) h
    | cons a t => rfl
end Go.Proofs.YtjcbjocgachpjaaGreatDoor
/- The contract of the reference's Clean. -/
set_option linter.unusedVariables false
set_option linter.unusedSimpArgs false
namespace Sw
open Go Go.RowKit
theorem rightL_nil : rightL [] = false := by decide
end Sw
namespace Go.Proofs.YtjcbjocgachpjaaGreatDoor
open Go Go.RowKit
open Sw
end Go.Proofs.YtjcbjocgachpjaaGreatDoor
/- The walk of NameCleans. -/
set_option linter.unusedVariables false
set_option linter.unusedSimpArgs false
namespace Sw
open Go Go.RowKit
theorem rightL_parts {p : List UInt8} (h : rightL p = true) : ∀ x ∈ spL p, partL x = true := by
  unfold rightL at h
  rw [Bool.and_eq_true] at h
  exact fun x hx => List.all_eq_true.1 h.2 x hx
theorem jn_spS (s : ByteArray) : jnL (datL (spS s)) = s.data.toList := by
  have : datL (spS s) = spL s.data.toList := spS_data s
  rw [this, jnL_spL]
end Sw
namespace Go.Proofs.YtjcbjocgachpjaaGreatDoor
open Go Go.ChangeShapes Go.WideShapes Go.ChangeAt Go.RowKit
open Go.ChangeMaps (open_string shut_string)
open Sw
end Go.Proofs.YtjcbjocgachpjaaGreatDoor
/- Plain laws of name.Parent, Base, Ups. -/
set_option linter.unusedVariables false
set_option linter.unusedSimpArgs false
namespace Sw
open Go Go.RowKit
open Go.Proofs.YtjcbjocgachpjaaGreatDoor (partsS)
theorem spL_last : ∀ (a r : List UInt8), (47 : UInt8) ∉ r → spL (a ++ 47 :: r) = spL a ++ [r]
  | [], r, h => by rw [List.nil_append, spL_slash, spL_none r h]; rfl
  | b :: a, r, h => by
    have ih := spL_last a r h
    rw [List.cons_append, spL, ih, spL]
    split
    · rfl
    · cases hs : spL a with
      | nil => exact absurd hs (spL_ne a)
      | cons x t => rfl
def parentS (s : ByteArray) : ByteArray := mkB (jnL (datL (partsS s).dropLast))
def baseS (s : ByteArray) : ByteArray := (partsS s).getLastD ⟨#[]⟩
/-- the ups of a path, the shortest first -/
def upsS (s : ByteArray) : List ByteArray := (List.range ((partsS s).length - 1)).map fun k => mkB (jnL (datL ((partsS s).take (k + 1))))
theorem partsS_right {s : ByteArray} (h : rightL s.data.toList = true) : partsS s = spS s := by
  unfold partsS
  rw [if_pos h]
theorem partsS_not {s : ByteArray} (h : rightL s.data.toList = false) : partsS s = [] := by
  unfold partsS
  rw [if_neg (by rw [h]; simp)]
theorem parent_not {s : ByteArray} (h : rightL s.data.toList = false) : parentS s = ⟨#[]⟩ ∧ baseS s = ⟨#[]⟩ := by
  unfold parentS baseS
  rw [partsS_not h]
  exact ⟨rfl, rfl⟩
/-- the last slash of a text -/
theorem last_hit {s : ByteArray} {i : Nat} (hi : i < s.size) (h1 : ((s.data[i]!).toNat : Int) = 47) (h2 : ∀ j, i < j → j < s.size → ((s.data[j]!).toNat : Int) ≠ 47) : spS s = spS (s.extract 0 i) ++ [s.extract (i + 1) s.size] := by
  have hl : s.data.toList.length = s.size := by simp
  have hget : ∀ j (h : j < s.size), s.data[j]! = s.data.toList[j]'(by omega) := fun j h => by
    rw [getElem!_pos s.data j h]
    simp
  have hno : (47 : UInt8) ∉ s.data.toList.drop (i + 1) := by
    intro hm
    obtain ⟨k, hk, hke⟩ := List.getElem_of_mem hm
    rw [List.length_drop] at hk
    rw [List.getElem_drop] at hke
    refine h2 (i + 1 + k) (by omega) (by omega) ?_
    rw [hget _ (by omega), hke]
    rfl
  have he : s.data.toList[i]'(by omega) = 47 := by
    rw [hget i hi] at h1
    have h47 : (s.data.toList[i]'(by omega)).toNat = 47 := by omega
    exact UInt8.toNat_inj.1 (h47.trans rfl)
  unfold spS
  have hd : s.data.toList = s.data.toList.take i ++ 47 :: s.data.toList.drop (i + 1) := by
    conv => lhs; rw [← List.take_append_drop i s.data.toList]
    rw [List.drop_eq_getElem_cons (by omega), he]
  conv => lhs; rw [hd]
  rw [spL_last _ _ hno, List.map_append, List.map_singleton, ext_take]
  congr 1
  rw [← ext_drop, mkB_data]
theorem last_miss {s : ByteArray} (h : ∀ j, j < s.size → ((s.data[j]!).toNat : Int) ≠ 47) : spS s = [s] := by
  have hl : s.data.toList.length = s.size := by simp
  have hno : (47 : UInt8) ∉ s.data.toList := by
    intro hm
    obtain ⟨k, hk, hke⟩ := List.getElem_of_mem hm
    refine h k (by omega) ?_
    rw [getElem!_pos s.data k (by show k < s.size; omega)]
    have : s.data[k]'(by show k < s.size; omega) = s.data.toList[k]'hk := by simp
    rw [this, hke]
    rfl
  unfold spS
  rw [spL_none _ hno, List.map_singleton, mkB_data]
theorem rightL_len {p : List UInt8} (h : rightL p = true) : p.length ≤ 200 ∧ (spL p).length ≤ 12 ∧ (spL p).headD [] ≠ resL := by
  unfold rightL at h
  simp only [Bool.and_eq_true, decide_eq_true_eq] at h
  exact ⟨h.1.1.1, h.1.1.2, h.1.2⟩
/-- the first parts of a path are a path -/
theorem right_take {s : ByteArray} (h : rightL s.data.toList = true) (k : Nat) (hk : 1 ≤ k) : rightL (jnL (datL ((spS s).take k))) = true ∧ spS (mkB (jnL (datL ((spS s).take k)))) = (spS s).take k := by
  have hp := rightL_parts h
  obtain ⟨h1, h2, h3⟩ := rightL_len h
  have hd : datL ((spS s).take k) = (spL s.data.toList).take k := by
    unfold datL
    rw [List.map_take]
    congr 1
    exact spS_data s
  have hne : (spL s.data.toList).take k ≠ [] := by
    intro e
    have := congrArg List.length e
    rw [List.length_take, List.length_nil] at this
    have hpos := List.length_pos_iff.2 (spL_ne s.data.toList)
    omega
  have hsp : spL (jnL ((spL s.data.toList).take k)) = (spL s.data.toList).take k := spL_jnL _ hne (fun x hx => spL_no _ x (List.mem_of_mem_take hx))
  rw [hd]
  constructor
  · unfold rightL
    rw [hsp]
    have hl : (jnL ((spL s.data.toList).take k)).length ≤ 200 := by
      have := jnL_take_le (spL s.data.toList) k
      rw [jnL_spL] at this
      omega
    have hh : ((spL s.data.toList).take k).headD [] = (spL s.data.toList).headD [] := by
      obtain ⟨k', rfl⟩ : ∃ k', k = k' + 1 := ⟨k - 1, by omega⟩
      cases spL s.data.toList <;> rfl
    rw [decide_eq_true hl, decide_eq_true (show ((spL s.data.toList).take k).length ≤ 12 by rw [List.length_take]; omega), hh, decide_eq_true h3]
    simp only [Bool.true_and, List.all_eq_true]
    exact fun x hx => hp x (List.mem_of_mem_take hx)
  · unfold spS
    rw [data_mkB, hsp, ← List.map_take]
/-- where a walk up a path stands -/
def pAt (U : List ByteArray) (k : Nat) : ByteArray := if h : 0 < k ∧ k ≤ U.length then U[k - 1]'(by omega) else ⟨#[]⟩
theorem upsS_len (s : ByteArray) : (upsS s).length = (partsS s).length - 1 := by
  unfold upsS
  rw [List.length_map, List.length_range]
theorem upsS_at (s : ByteArray) (k : Nat) (h : k < (upsS s).length) : (upsS s)[k] = mkB (jnL (datL ((partsS s).take (k + 1)))) := by
  have hl := upsS_len s
  have h2 : (upsS s)[k]? = some (mkB (jnL (datL ((partsS s).take (k + 1))))) := by
    unfold upsS
    rw [List.getElem?_map, List.getElem?_range (by omega)]
    rfl
  exact (List.getElem?_eq_some_iff.1 h2).2
theorem ups_pAt (s : ByteArray) (k : Nat) (h : k ≤ (upsS s).length) : pAt (upsS s) k = mkB (jnL (datL ((partsS s).take k))) := by
  unfold pAt
  by_cases h0 : 0 < k
  · rw [dif_pos ⟨h0, h⟩, upsS_at, show k - 1 + 1 = k by omega]
  · rw [dif_neg (by omega), show k = 0 by omega]
    rfl
theorem ups_start (s : ByteArray) : parentS s = pAt (upsS s) (upsS s).length := by
  rw [ups_pAt s _ (Nat.le_refl _), upsS_len]
  unfold parentS
  rw [List.dropLast_eq_take]
theorem ups_step (s : ByteArray) (k : Nat) (h : k < (upsS s).length) : parentS (upsS s)[k] = pAt (upsS s) k ∧ (upsS s)[k].size ≤ 200 ∧ rightL (upsS s)[k].data.toList = true := by
  have hlen := upsS_len s
  have hr : rightL s.data.toList = true := by
    cases hr : rightL s.data.toList with
    | true => rfl
    | false => rw [partsS_not hr, List.length_nil] at hlen; omega
  have hps := partsS_right hr
  obtain ⟨h1, h2⟩ := right_take hr (k + 1) (by omega)
  rw [ups_pAt s k (by omega), upsS_at, hps]
  rw [hps] at hlen
  have hq : partsS (mkB (jnL (datL ((spS s).take (k + 1))))) = (spS s).take (k + 1) := by
    rw [partsS_right (by rw [data_mkB]; exact h1), h2]
  refine ⟨?_, ?_, by rw [data_mkB]; exact h1⟩
  · unfold parentS
    rw [hq, List.dropLast_eq_take, List.take_take, List.length_take]
    congr 4
    omega
  · rw [mkB_size]
    exact (rightL_len h1).1
theorem pAt_succ (U : List ByteArray) (k : Nat) (h : k < U.length) : pAt U (k + 1) = U[k] := by
  unfold pAt
  rw [dif_pos ⟨by omega, by omega⟩]
  rfl
theorem right_pos {s : ByteArray} (h : rightL s.data.toList = true) : 0 < s.size := by
  by_cases h0 : s.size = 0
  · have : s.data.toList = [] := List.length_eq_zero_iff.1 (by simpa using h0)
    rw [this, rightL_nil] at h
    cases h
  · omega
end Sw
