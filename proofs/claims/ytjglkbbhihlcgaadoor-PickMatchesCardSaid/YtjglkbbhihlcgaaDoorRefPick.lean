/- The contract of the reference's Part. -/
import Derived.Test.YtjglkbbhihlcgaaDoorPickPart
import Derived.BigRegion
set_option linter.unusedVariables false
set_option linter.unusedSimpArgs false
namespace Sw
open Go Go.RowKit
end Sw
namespace Go.Proofs.YtjglkbbhihlcgaaDoor
open Go Go.RowKit
open Sw
/-- from the end on -/
theorem RowB.stepB {w : World} {g n k m : Nat} {G : Nat → Bool} (b : Bool) (hm : k + 1 = m) (hr : RowB w g n (fun j => if m ≤ j then G j else false)) (e : G k = b) : RowB (w.setCell ⟨g, k, none⟩ (.bool b)) g n (fun j => if k ≤ j then G j else false) :=
  RowB.set k b hr fun j hj => by
    by_cases h : j = k
    · subst h; rw [if_pos (Nat.le_refl _), if_pos rfl, e]
    · rw [if_neg h]
      by_cases h2 : m ≤ j
      · rw [if_pos (by omega), if_pos h2]
      · rw [if_neg (by omega), if_neg h2]
set_option maxRecDepth 100000 in
set_option maxHeartbeats 8000000 in
theorem refPickPart_any (w : World) (p s : ByteArray) (hp : p.size ≤ 200) (hs : s.size ≤ 200) :
    Calls Tryd.prog 20 #[.string p, .string s] w fun e w' => e = .returned (.bool (mat p.data.toList s.data.toList)) ∧ Below w.heap.size w w' := by
  have hpl : p.data.toList.length = p.size := by simp
  have hsl : s.data.toList.length = s.size := by simp
  have h0 : ∀ k, k < s.size + 1 → bw p.data.toList s.data.toList p.size k = if k = s.size then true else false := fun k hk => by
    have := bw_end p.data.toList s.data.toList k (by omega)
    rw [hpl, hsl] at this
    rw [this]
    by_cases h : k = s.size <;> simp [h]
  have hend := bw_start p.data.toList s.data.toList
  have hs0 := bw_starE p.data.toList s.data.toList
  have hst := bw_star p.data.toList s.data.toList
  have ho0 := bw_oneE p.data.toList s.data.toList
  have hon := bw_one p.data.toList s.data.toList
  rw [hsl] at hs0 ho0
  obtain ⟨F, hF⟩ : ∃ F, bw p.data.toList s.data.toList = F := ⟨_, rfl⟩
  rw [hF] at h0 hend hs0 hst ho0 hon
  rw [← hend]
  clear hF hend
  have H0 := Lib.hid h0; clear h0
  have HX := Lib.hid (And.intro hs0 (And.intro hst (And.intro ho0 hon))); clear hs0 hst ho0 hon
  have HL := Lib.hid (And.intro hpl hsl); clear hpl hsl
  have hpI : (p.size : Int) ≤ 200 := by omega
  have hsI : (s.size : Int) ≤ 200 := by omega
  obtain ⟨m, hm⟩ : ∃ m, m = s.size + 1 := ⟨_, rfl⟩
  have hmI : (s.size : Int) + 1 = m := by omega
  have hm201 : m ≤ 201 := by omega
  have hsm : s.size < m := by omega
  have hsmI : (s.size : Int) < m := by omega
  have HM := Lib.hid hm; clear hm
  go_enter Tryd.func20, Tryd.ntmps20
  go_wp2_with (at_make; refine wpList_mkB _ rfl _ _ rfl .i64 .i64 m rfl rfl (by omega) ?_; intro w1 hr1 hb1 hs1; have hc1 := World.rowIs.cell hr1 (i := s.size) (by omega); have hf1 := World.rowIs.frozen hr1 s.size)
  have hr2 := RowB.set (h := F p.size) s.size true hr1 (fun j hj => by rw [H0.out j (by have := HM.out; omega)])
  have hb2 := hb1.setCell (p := ⟨w.heap.size, s.size, none⟩) (Nat.le_refl _) (.bool true)
  generalize w1.setCell ⟨w.heap.size, s.size, none⟩ (.bool true) = w2 at *
  clear hr1 hb1 hs1 hc1 hf1
  have HR2 := Lib.hid hr2; clear hr2
  go_loopw [5, 6, 7, 8] (fun fits iv _ _ wr => ∃ i fb : Nat, i ≤ p.size ∧ iv = .int .i64 ((i : Int) - 1) ∧ fits = .slice (some ⟨fb, 0, none⟩) m m ∧ w.heap.size ≤ fb ∧ RowB wr fb m (F i) ∧ Below w.heap.size w wr) (fun _ iv _ _ _ => (intOf iv + 1).toNat)
  case atStart => exact ⟨p.size, w.heap.size, Nat.le_refl _, rfl, rfl, Nat.le_refl _, HR2.out, hb2⟩
  case round =>
    obtain ⟨i, fb, hi, rfl, rfl, hfb, hrow, hbr⟩ := hrel
    have HROW := Lib.hid hrow; clear hrow HR2
    cases i with
    | zero =>
      have hcE := World.rowIs.cell HROW.out (i := 0) (by omega)
      generalize hbF : F 0 0 = b at hcE
      have hm0 : (0 : Int) < m := by omega
      go_wp2_with fail
      go_ret
      exact ⟨by rw [hbF]; first | done | rfl, hbr⟩
    | succ i =>
      have hiI : (i : Int) < p.size := by omega
      have hi0 : (0 : Int) ≤ i := by omega
      have hiS : ((i + 1 : Nat) : Int) - 1 = i := by omega
      rw [hiS]
      clear hiS
      go_wp2_with (at_make; refine wpList_mkB _ rfl _ _ rfl .i64 .i64 m rfl rfl (by omega) ?_; intro w3 hr3 hb3 hs3)
      have hbw3 := hbr.trans (hb3.mono hbr.size)
      have hfl : fb < wr.heap.size := World.rowIs.lt HROW.out
      have hrf3 : RowB w3 fb m (F (i + 1)) := World.rowIs.of_block HROW.out (hb3.block fb hfl)
      have hne : fb ≠ wr.heap.size := by omega
      have hnb : w.heap.size ≤ wr.heap.size := hbr.size
      generalize wr.heap.size = nb at *
      have HR3 := Lib.hid (And.intro hrf3 hr3); clear hrf3 hr3 hs3 hb3 HROW
      go_wp2_with fail
      go_loopw [8] (fun kv wr => ∃ k : Nat, k ≤ m ∧ kv = .int .i64 ((k : Int) - 1) ∧ RowB wr fb m (F (i + 1)) ∧ RowB wr nb m (fun j => if k ≤ j then F i j else false) ∧ Below w.heap.size w wr) (fun kv _ => (intOf kv + 1).toNat)
      case atStart => exact ⟨m, Nat.le_refl _, by rw [← hmI]; first | rfl | go_num, HR3.out.1, RowB.congr HR3.out.2 (fun j hj => by show false = (if m ≤ j then F i j else false); rw [if_neg (by omega)]), hbw3⟩
      case round =>
        obtain ⟨k, hk, rfl, hrF, hrN, hbk⟩ := hrel
        have HRF := Lib.hid hrF; clear hrF
        have HRN := Lib.hid hrN; clear hrN
        cases k with
        | zero =>
          have HRN2 := Lib.hid (show RowB wr nb m (F i) from RowB.congr HRN.out (fun j hj => by show (if 0 ≤ j then F i j else false) = F i j; rw [if_pos (Nat.zero_le _)]))
          go_wp2_with fail
          go_roundw
          case rel => exact ⟨i, nb, by omega, by first | rfl | go_num, rfl, hnb, HRN2.out, hbk⟩
          case measure => simp [intOf] <;> omega
        | succ k =>
          have hkS : ((k + 1 : Nat) : Int) - 1 = k := by omega
          rw [hkS]
          clear hkS
          have hk0 : (0 : Int) ≤ k := by omega
          have hkI : (k : Int) < m := by omega
          have hip : i < p.data.toList.length := by have := HL.out.1; omega
          have hpi : p.data.toList[i] = p[i] := by simp; rfl
          have hcF := World.rowIs.cell HRF.out (i := k) (by omega)
          have hcN : wr.cell? ⟨nb, k, none⟩ = some (.bool false) := by
            have := World.rowIs.cell HRN.out (i := k) (by omega)
            change wr.cell? ⟨nb, k, none⟩ = some (.bool (if k + 1 ≤ k then F i k else false)) at this
            rw [if_neg (by omega)] at this
            exact this
          have hfN := World.rowIs.frozen HRN.out k
          by_cases hc : p[i] = 42
          · have e42 : ((p[i].toNat : Int) == 42) = true := by rw [hc]; rfl
            by_cases hks : k = s.size
            · have hG : F i k = F (i + 1) k := by rw [hks]; exact HX.out.1 i hip (by rw [hpi]; exact hc)
              have hkN : ¬ (k : Int) < s.size := by omega
              have HG := Lib.hid hG; clear hG hc hpi hks
              generalize hcc : p[i] = cc at *
              generalize F (i + 1) k = a at *
              cases a with
              | true =>
                go_wp2_with fail
                go_roundw
                case rel => exact ⟨k, by omega, by first | rfl | go_num, World.rowIs.setOther HRF.out hne _, RowB.stepB true rfl HRN.out HG.out, hbk.setCell hnb _⟩
                case measure => simp [intOf] <;> omega
              | false =>
                go_wp2_with fail
                go_roundw
                case rel => exact ⟨k, by omega, by first | rfl | go_num, World.rowIs.setOther HRF.out hne _, RowB.stepB false rfl HRN.out HG.out, hbk.setCell hnb _⟩
                case measure => simp [intOf] <;> omega
            · have hksl : k < s.data.toList.length := by have := HL.out.2; have := HM.out; omega
              have hG : F i k = (F (i + 1) k || F i (k + 1)) := HX.out.2.1 i k hip (by rw [hpi]; exact hc) hksl
              have hkN : (k : Int) < s.size := by have := HM.out; omega
              have hkP : (k : Int) + 1 < m := by omega
              have hcP : wr.cell? ⟨nb, k + 1, none⟩ = some (.bool (F i (k + 1))) := by
                have := World.rowIs.cell HRN.out (i := k + 1) (by have := HM.out; omega)
                change wr.cell? ⟨nb, k + 1, none⟩ = some (.bool (if k + 1 ≤ k + 1 then F i (k + 1) else false)) at this
                rw [if_pos (Nat.le_refl _)] at this
                exact this
              have HG := Lib.hid hG; clear hG hc hpi hks
              generalize hcc : p[i] = cc at *
              generalize F (i + 1) k = a at *
              generalize hfb2 : F i (k + 1) = b2 at hcP
              cases a with
              | true =>
                clear hcP
                go_wp2_with fail
                go_roundw
                case rel => exact ⟨k, by omega, by first | rfl | go_num, World.rowIs.setOther HRF.out hne _, RowB.stepB true rfl HRN.out HG.out, hbk.setCell hnb _⟩
                case measure => simp [intOf] <;> omega
              | false =>
                go_wp2_with fail
                go_roundw
                case rel => exact ⟨k, by omega, by first | rfl | go_num, World.rowIs.setOther HRF.out hne _, RowB.stepB b2 rfl HRN.out (by rw [HG.out, Bool.false_or]; exact hfb2), hbk.setCell hnb _⟩
                case measure => simp [intOf] <;> omega
          · have e42 : ((p[i].toNat : Int) == 42) = false := by
              rw [beq_eq_false_iff_ne]
              intro e
              exact hc (UInt8.toNat_inj.1 (show p[i].toNat = (42 : UInt8).toNat by have : (42 : UInt8).toNat = 42 := rfl; omega))
            by_cases hks : k = s.size
            · have hG : F i k = false := by rw [hks]; exact HX.out.2.2.1 i hip (by rw [hpi]; exact hc)
              have hd : decide ((k : Int) < s.size) = false := decide_eq_false (by omega)
              have hd2 : decide (k < s.size) = false := decide_eq_false (by omega)
              have hd3 : s.size ≤ k := by omega
              have HG := Lib.hid hG; clear hG hc hpi hks
              generalize hcc : p[i] = cc at *
              go_wp2_with fail
              go_region
              go_wp2_with fail
              go_roundw
              case rel => exact ⟨k, by omega, by first | rfl | go_num, World.rowIs.setOther HRF.out hne _, RowB.stepB false rfl HRN.out HG.out, hbk.drew.setCell hnb _⟩
              case measure => simp [intOf] <;> omega
            · have hksl : k < s.data.toList.length := by have := HL.out.2; have := HM.out; omega
              have hks2 : k < s.size := by have := HM.out; omega
              have hG : F i k = ((p.data.toList[i] == 63 || p.data.toList[i] == s.data.toList[k]) && F (i + 1) (k + 1)) := HX.out.2.2.2 i k hip (by rw [hpi]; exact hc) hksl
              have hsi : s.data.toList[k] = s[k] := by simp; rfl
              rw [hpi, hsi] at hG
              have hkN : (k : Int) < s.size := by omega
              have hkP : (k : Int) + 1 < m := by omega
              have hcP := World.rowIs.cell HRF.out (i := k + 1) (by have := HM.out; omega)
              have e63 : ((p[i].toNat : Int) == 63) = (p[i] == 63) := by
                by_cases e : p[i] = 63
                · rw [e]; rfl
                · rw [beq_eq_false_iff_ne.2 e, beq_eq_false_iff_ne]
                  intro e2
                  exact e (UInt8.toNat_inj.1 (show p[i].toNat = (63 : UInt8).toNat by have : (63 : UInt8).toNat = 63 := rfl; omega))
              have eps : ((p[i].toNat : Int) == (s[k].toNat : Int)) = (p[i] == s[k]) := by
                by_cases e : p[i] = s[k]
                · rw [e]; simp
                · rw [beq_eq_false_iff_ne.2 e, beq_eq_false_iff_ne]
                  intro e2
                  exact e (UInt8.toNat_inj.1 (by omega))
              have HG := Lib.hid hG; clear hG hc hpi hks hsi
              generalize hcc : p[i] = cc at *
              generalize hdd : s[k] = dd at *
              generalize (cc == 63) = q63 at *
              generalize (cc == dd) = qps at *
              generalize hfb2 : F (i + 1) (k + 1) = b2 at hcP
              clear hcF
              cases q63 with
              | true =>
                clear eps
                go_wp2_with fail
                go_region
                go_wp2_with fail
                go_roundw
                case rel => exact ⟨k, by omega, by first | rfl | go_num, World.rowIs.setOther HRF.out hne _, RowB.stepB b2 rfl HRN.out (by rw [HG.out, ← hfb2]; simp), hbk.drew.setCell hnb _⟩
                case measure => simp [intOf] <;> omega
              | false =>
                cases qps with
                | true =>
                  go_wp2_with fail
                  go_region
                  go_wp2_with fail
                  go_roundw
                  case rel => exact ⟨k, by omega, by first | rfl | go_num, World.rowIs.setOther HRF.out hne _, RowB.stepB b2 rfl HRN.out (by rw [HG.out, ← hfb2]; simp), hbk.drew.setCell hnb _⟩
                  case measure => simp [intOf] <;> omega
                | false =>
                  go_wp2_with fail
                  go_region
                  go_wp2_with fail
                  go_roundw
                  case rel => exact ⟨k, by omega, by first | rfl | go_num, World.rowIs.setOther HRF.out hne _, RowB.stepB false rfl HRN.out (by rw [HG.out]; rfl), hbk.drew.setCell hnb _⟩
                  case measure => simp [intOf] <;> omega
end Go.Proofs.YtjglkbbhihlcgaaDoor
