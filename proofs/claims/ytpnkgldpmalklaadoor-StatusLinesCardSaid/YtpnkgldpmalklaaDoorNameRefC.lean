/- Contracts of the reference's Right, Parts and Join. -/
import Derived.Test.YtpnkgldpmalklaaDoorNameRefB
import Derived.Test.YtpnkgldpmalklaaDoorNameRightB
set_option linter.unusedVariables false
set_option linter.unusedSimpArgs false
namespace Sw
open Go Go.RowKit
theorem spS_data (s : ByteArray) : (spS s).map (fun b : ByteArray => b.data.toList) = spL s.data.toList := by
  unfold spS
  rw [List.map_map]
  conv => rhs; rw [← List.map_id (spL s.data.toList)]
  exact List.map_congr_left fun a _ => data_mkB a
theorem spS_zero (s : ByteArray) (h : 0 < (spS s).length) : (spS s)[0] = headS s := by
  have h2 : (spS s)[0]? = some (headS s) := by
    unfold spS headS
    rw [← spL_head s.data.toList]
    rfl
  exact (List.getElem?_eq_some_iff.1 h2).2
theorem spL_size : ∀ (l : List UInt8), ∀ x ∈ spL l, x.length ≤ l.length
  | [], x, h => by
    rw [spL, List.mem_singleton] at h
    rw [h]
    simp
  | b :: l, x, h => by
    rw [spL] at h
    rw [List.length_cons]
    split at h
    · rcases List.mem_cons.1 h with rfl | h
      · simp
      · have := spL_size l x h; omega
    · rcases List.mem_cons.1 h with rfl | h
      · have hm : (spL l).headD [] ∈ spL l := by
          cases he : spL l with
          | nil => exact absurd he (spL_ne l)
          | cons a t => exact List.mem_cons_self
        have := spL_size l _ hm
        rw [List.length_cons]
        omega
      · have hm : x ∈ spL l := by
          rw [← spL_head l]
          exact List.mem_cons_of_mem _ h
        have := spL_size l x hm
        omega
theorem spS_size (s : ByteArray) : ∀ x ∈ spS s, x.size ≤ s.size := by
  intro x hx
  unfold spS at hx
  obtain ⟨a, ha, rfl⟩ := List.mem_map.1 hx
  have := spL_size s.data.toList a ha
  rw [mkB_size]
  have h : s.data.toList.length = s.size := by simp
  omega
theorem rightL_many {s : ByteArray} (h : 12 < (spS s).length) : rightL s.data.toList = false := by
  unfold spS at h
  rw [List.length_map] at h
  unfold rightL
  rw [decide_eq_false (show ¬ (spL s.data.toList).length ≤ 12 by omega)]
  simp
theorem rightL_badAt {s : ByteArray} {i : Nat} (h : i < (spS s).length) (hb : partL (spS s)[i].data.toList = false) : rightL s.data.toList = false :=
  rightL_bad (pre := (spS s).take i) (x := (spS s)[i]) (r := (spS s).drop (i + 1)) (by
    rw [List.append_assoc]
    conv => lhs; rw [← List.take_append_drop i (spS s), List.drop_eq_getElem_cons h]
    rfl) (.inl hb)
theorem jnL_take_le : ∀ (l : List (List UInt8)) (i : Nat), (jnL (l.take i)).length ≤ (jnL l).length
  | [], i => by simp
  | x :: l, 0 => by simp [jnL]
  | [x], i + 1 => by simp
  | x :: y :: l, i + 1 => by
    have := jnL_take_le (y :: l) i
    rw [List.take_succ_cons]
    by_cases h : (y :: l).take i = []
    · rw [h, jnL, jnL_cons x _ (by simp)]
      simp
    · rw [jnL_cons x _ h, jnL_cons x (y :: l) (by simp)]
      simp only [List.length_append, List.length_cons]
      omega
def dat (b : ByteArray) : List UInt8 := b.data.toList
end Sw
namespace Go.Proofs.YtpnkgldpmalklaaDoor
open Go Go.RowKit
open Sw
set_option maxRecDepth 100000 in
set_option maxHeartbeats 4000000 in
theorem refRight_any (w : World) (s : ByteArray) (hs : s.size ≤ 100000) :
    Calls Tryd.prog 7 #[.string s] w fun e w' => e = .returned (.bool (rightL s.data.toList)) ∧ Below w.heap.size w w' := by
  have HS := Lib.hid (refSplit_any w s hs)
  have HP := Lib.hid refPart_any
  have hpos : 0 < (spS s).length := List.length_pos_iff.2 (spS_ne s)
  have hz := spS_zero s hpos
  have hres : ((headS s).toList == [46, 115, 119, 105, 110, 103, 108, 101]) = decide (headS s = mkB resL) := by
    rw [str_eq_iff]
    by_cases h : headS s = mkB resL
    · rw [decide_eq_true h, h, data_mkB]; rfl
    · rw [decide_eq_false h]
      refine decide_eq_false fun e => h ?_
      rw [← mkB_data (headS s), e]; rfl
  have hlen := spS_len s
  obtain ⟨U, hU⟩ : ∃ U, rightL s.data.toList = U := ⟨_, rfl⟩
  have hLong := fun (h : (200 : Int) < s.size) => rightL_long (s := s) (by omega)
  have hMany := fun (h : 12 < (spS s).length) => rightL_many h
  have hRes := fun (h : headS s = mkB resL) => rightL_res h
  have hBad := fun (i : Nat) (h : i < (spS s).length) (hb : partL (spS s)[i].data.toList = false) => rightL_badAt h hb
  have hGood := fun (h1 : s.size ≤ 200) (h2 : headS s ≠ mkB resL) (h3 : ∀ x ∈ spS s, partL x.data.toList = true) (h4 : (spS s).length ≤ 12) => rightL_good rfl h1 h2 h3 h4
  have hsz : ∀ x ∈ spS s, x.size ≤ 100000 := fun x hx => by
    have := spS_size s x hx
    omega
  rw [hU] at hLong hMany hRes hBad hGood ⊢
  clear hU
  generalize spS s = L at *
  have HX := Lib.hid (And.intro hMany (And.intro hBad (And.intro hGood hsz))); clear hMany hBad hGood hsz
  have HLO := Lib.hid hLong; clear hLong
  have HRE := Lib.hid hRes; clear hRes
  go_enter Tryd.func7, Tryd.ntmps7
  go_wp2_with fail
  refine HS.out.mono ?_
  rintro e w1 ⟨v, rfl, hown, hb1⟩
  obtain ⟨A, c, rfl, hc, hm, hsl⟩ := SlV.of_own hown bE_len (by omega)
  unfold maxLen at hm
  obtain ⟨b, off, rfl, hbb, hcs⟩ := hsl hpos
  have hc0 := hcs 0 hpos 0 (by omega)
  rw [hz] at hc0
  simp [bE] at hc0
  have HCS := Lib.hid hcs; clear hcs
  clear hz hown hsl HS
  obtain ⟨N, hN⟩ : ∃ N, L.length = N := ⟨_, rfl⟩
  have HN := Lib.hid hN
  rw [hN] at hc hpos hlen ⊢
  clear hN
  by_cases h1 : (200 : Int) < s.size
  · have HF := Lib.hid (HLO.out h1)
    go_wp2_with fail
    go_ret
    exact ⟨by rw [HF.out]; first | done | rfl, hb1⟩
  by_cases h2 : (12 : Int) < N
  · have HF := Lib.hid (HX.out.1 (by have := HN.out; omega))
    go_wp2_with fail
    go_ret
    exact ⟨by rw [HF.out]; first | done | rfl, hb1⟩
  by_cases h3 : headS s = mkB resL
  · have HF := Lib.hid (HRE.out h3)
    rw [decide_eq_true h3] at hres
    clear h3
    have hp0 : (0 : Int) < N := by omega
    go_wp2_with fail
    go_ret
    exact ⟨by rw [HF.out]; first | done | rfl, hb1⟩
  rw [decide_eq_false h3] at hres
  have H3 := Lib.hid h3; clear h3 HRE HLO
  have hp0 : (0 : Int) < N := by omega
  go_wp2_with fail
  go_loopw [2, 5, 24] (fun r _ iv wr => ∃ i : Nat, i ≤ N ∧ r = .bool false ∧ iv = .int .i64 i ∧ (∀ j (h : j < L.length), j < i → partL L[j].data.toList = true) ∧ w1 = wr) (fun _ _ iv _ => N - (intOf iv).toNat)
  case atStart => exact ⟨0, Nat.zero_le _, rfl, rfl, fun j h h' => by omega, rfl⟩
  case round =>
    obtain ⟨i, hi, rfl, rfl, hall, rfl⟩ := hrel
    by_cases hlt : i < N
    · have hiL : i < L.length := by have := HN.out; omega
      have hci := HCS.out i hiL 0 (by omega)
      have hsi := HX.out.2.2.2 L[i] (List.getElem_mem hiL)
      have hPi := HP.out w1 L[i] (by omega)
      have hbad := HX.out.2.1 i hiL
      simp [bE] at hci
      have HST := Lib.hid (fun (hp : partL L[i].data.toList = true) j (h : j < L.length) (hj : j < i + 1) => show partL L[j].data.toList = true by
        by_cases hji : j = i
        · subst hji; exact hp
        · exact hall j h (by omega))
      have hi1 : (i : Int) < N := by omega
      clear hall
      generalize partL L[i].data.toList = P at *
      have HPI := Lib.hid hPi; clear hPi
      have HB := Lib.hid hbad; clear hbad
      generalize L[i] = X at *
      cases P with
      | false =>
        have HF := Lib.hid (HB.out rfl)
        go_wp2_with fail
        refine HPI.out.mono ?_
        rintro e w2 ⟨rfl, rfl⟩
        go_wp2_with fail
        go_ret
        exact ⟨by rw [HF.out]; first | done | rfl, hb1⟩
      | true =>
        have HF := Lib.hid (HST.out rfl)
        go_wp2_with fail
        refine HPI.out.mono ?_
        rintro e w2 ⟨rfl, rfl⟩
        go_wp2_with fail
        go_roundw
        case rel => exact ⟨i + 1, by omega, rfl, by go_num, HF.out, by simp⟩
        case measure => simp [intOf]; omega
    · obtain rfl : i = N := by omega
      have HF := Lib.hid (HX.out.2.2.1 (by omega) H3.out (fun x hx => by
        obtain ⟨j, hj, rfl⟩ := List.getElem_of_mem hx
        exact hall j hj (by have := HN.out; omega)) (by have := HN.out; omega))
      clear hall hlt
      go_wp2_with fail
      go_ret
      exact ⟨by rw [HF.out]; first | done | rfl, hb1⟩
end Go.Proofs.YtpnkgldpmalklaaDoor
