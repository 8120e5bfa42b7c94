/- The contract of pick.Part. -/
import Derived.Test.YtjglkbbhihlcgaaDoorPickPlain
import Derived.Test.YtjglkbbhihlcgaaDoorRefBefore
set_option linter.unusedVariables false
set_option linter.unusedSimpArgs false
namespace Go.Proofs.YtjglkbbhihlcgaaDoor
open Go Go.RowKit
open Sw
theorem info_bool : (Tryd.prog.info? 4).map (fun i => (i.zero, i.size, i.bytes)) = some (some (.bool false), 1, 1) := by kernel_rfl
/-- a row of Booleans -/
def RowB (w : World) (g n : Nat) (f : Nat → Bool) : Prop := w.rowIs g 4 n (fun j => .bool (f j))
theorem mk_bools (n : Nat) (hn : n ≤ 100000000) (w : World) : (Instr.makeSlice 47 (.int .i64 (n : Int)) (.int .i64 (n : Int))).run Tryd.prog w = .ok (.slice (some ⟨w.heap.size, 0, none⟩) n n) (w.alloc (.cells (madeCells #[.bool false] n) 4)) :=
  run_make_row' 47 4 (.bool false) 1 Tryd.underlying47 info_bool rfl .i64 .i64 n (by omega) (by omega) w
theorem row_made (w : World) (n : Nat) : RowB (w.alloc (.cells (madeCells #[.bool false] n) 4)) w.heap.size n (fun _ => false) := World.rowIs_made w (.bool false) n 4
theorem RowB.set {w : World} {g n : Nat} {f h : Nat → Bool} (k : Nat) (b : Bool) (hr : RowB w g n f) (e : ∀ j, j < n → h j = if j = k then b else f j) : RowB (w.setCell ⟨g, k, none⟩ (.bool b)) g n h := by
  refine (World.rowIs.set hr k (.bool b)).congr fun j hj => ?_
  rw [e j hj]
  split <;> rfl
theorem RowB.congr {w : World} {g n : Nat} {f h : Nat → Bool} (hr : RowB w g n f) (e : ∀ j, j < n → f j = h j) : RowB w g n h := World.rowIs.congr hr fun j hj => congrArg Value.bool (e j hj)
theorem RowB.step {w : World} {g n k : Nat} {G : Nat → Bool} (b : Bool) (hr : RowB w g n (fun j => if j < k then G j else false)) (e : G k = b) : RowB (w.setCell ⟨g, k, none⟩ (.bool b)) g n (fun j => if j < k + 1 then G j else false) :=
  RowB.set k b hr fun j hj => by
    by_cases h : j = k
    · subst h; rw [if_pos (by omega), if_pos rfl, e]
    · rw [if_neg h]
      by_cases h2 : j < k
      · rw [if_pos (by omega), if_pos h2]
      · rw [if_neg (by omega), if_neg h2]
theorem RowB.still {w : World} {g n k : Nat} {G : Nat → Bool} (hr : RowB w g n (fun j => if j < k then G j else false)) (e : G k = false) : RowB w g n (fun j => if j < k + 1 then G j else false) :=
  RowB.congr hr fun j hj => by
    show (if j < k then G j else false) = (if j < k + 1 then G j else false)
    by_cases h : j = k
    · subst h; rw [if_neg (Nat.lt_irrefl j), if_pos (Nat.lt_succ_self j), e]
    · by_cases h2 : j < k
      · rw [if_pos h2, if_pos (Nat.lt_succ_of_lt h2)]
      · rw [if_neg h2, if_neg (by omega)]
theorem wpList_mkB (w : World) {ops : Array Oper} {rest : List Oper} {o : Oper} {a : Act} {Q : Exit → Act → World → Prop}
    (hg : o.guard = none) (l c : Operand) (hop : o.op = Op.makeSlice 47 l c) (kl kc : IntKind) (n : Nat) (hl : a.eval l = .int kl (n : Int)) (hc : a.eval c = .int kc (n : Int)) (hn : n ≤ 100000000)
    (hK : ∀ w1, RowB w1 w.heap.size n (fun _ => false) → Below w.heap.size w w1 → w1.heap.size = w.heap.size + 1 → wpList Tryd.prog ops Q rest (a.put o.dst (.slice (some ⟨w.heap.size, 0, none⟩) n n)) w1) :
    wpList Tryd.prog ops Q (o :: rest) a w := by
  obtain ⟨i0, hi, hz0, hz1, hz2⟩ := info_parts info_bool
  exact wpList_make_row w hg l c 47 hop 4 i0 (.bool false) Tryd.underlying47 hi hz0 hz1 rfl kl kc n hl hc (by rw [hz2]; omega) (by omega) (hK _ (row_made w n) ((Below.refl _ _).alloc (Nat.le_refl _) _) (by simp))
set_option maxRecDepth 100000 in
set_option maxHeartbeats 4000000 in
theorem pickPart_any (w : World) (p s : ByteArray) (hp : p.size ≤ 200) (hs : s.size ≤ 200) :
    Calls Tryd.prog 15 #[.string p, .string s] w fun e w' => e = .returned (.bool (mat p.data.toList s.data.toList)) ∧ Below w.heap.size w w' := by
  have hpl : p.data.toList.length = p.size := by simp
  have hsl : s.data.toList.length = s.size := by simp
  have h0 : ∀ k, k < s.size + 1 → fw p.data.toList s.data.toList 0 k = if k = 0 then true else false := fun k hk => by
    rw [fw_zero _ _ _ (by omega)]
    by_cases h : k = 0 <;> simp [h]
  have hend := fw_end p.data.toList s.data.toList
  rw [hpl, hsl] at hend
  have hs0 := fw_star0 p.data.toList s.data.toList
  have hst := fw_star p.data.toList s.data.toList
  have ho0 := fw_one0 p.data.toList s.data.toList
  have hon := fw_one p.data.toList s.data.toList
  obtain ⟨F, hF⟩ : ∃ F, fw p.data.toList s.data.toList = F := ⟨_, rfl⟩
  rw [hF] at h0 hend hs0 hst ho0 hon
  rw [← hend]
  clear hF hend
  have H0 := Lib.hid h0; clear h0
  have HX := Lib.hid (And.intro hs0 (And.intro hst (And.intro ho0 hon))); clear hs0 hst ho0 hon
  have HL := Lib.hid (And.intro hpl hsl); clear hpl hsl
  have hpI : (p.size : Int) ≤ 200 := by omega
  have hsI : (s.size : Int) ≤ 200 := by omega
  have hpJ : ¬ (200 : Int) < p.size := by omega
  have hsJ : ¬ (200 : Int) < s.size := by omega
  obtain ⟨m, hm⟩ : ∃ m, m = s.size + 1 := ⟨_, rfl⟩
  have hmI : (s.size : Int) + 1 = m := by omega
  have hm201 : m ≤ 201 := by omega
  have hm0 : 0 < m := by omega
  have hm0I : (0 : Int) < m := by omega
  have HM := Lib.hid hm; clear hm
  go_enter Tryd.func15, Tryd.ntmps15
  go_wp2_with (at_make; refine wpList_mkB _ rfl _ _ rfl .i64 .i64 m rfl rfl (by omega) ?_; intro w1 hr1 hb1 hs1; have hc1 := World.rowIs.cell hr1 (i := 0) (by omega); have hf1 := World.rowIs.frozen hr1 0)
  have hr2 := RowB.set (h := F 0) 0 true hr1 (fun j hj => by rw [H0.out j (by have := HM.out; omega)])
  have hb2 := hb1.setCell (p := ⟨w.heap.size, 0, none⟩) (Nat.le_refl _) (.bool true)
  have hsz2 : (w1.setCell ⟨w.heap.size, 0, none⟩ (.bool true)).heap.size = w.heap.size + 1 := by rw [← hs1]; simp
  generalize w1.setCell ⟨w.heap.size, 0, none⟩ (.bool true) = w2 at *
  clear hr1 hb1 hs1 hc1 hf1
  have HR2 := Lib.hid hr2; clear hr2
  go_loopw [5, 6, 7, 8, 25, 37, 60] (fun fits _ _ _ iv _ _ wr => ∃ i fb : Nat, i ≤ p.size ∧ iv = .int .i64 i ∧ fits = .slice (some ⟨fb, 0, none⟩) m m ∧ w.heap.size ≤ fb ∧ RowB wr fb m (F i) ∧ Below w.heap.size w wr) (fun _ _ _ _ iv _ _ _ => p.size - (intOf iv).toNat)
  case atStart => exact ⟨0, w.heap.size, Nat.zero_le _, rfl, rfl, Nat.le_refl _, HR2.out, hb2⟩
  case round =>
    obtain ⟨i, fb, hi, rfl, rfl, hfb, hrow, hbr⟩ := hrel
    have HROW := Lib.hid hrow; clear hrow HR2
    by_cases hlt : i < p.size
    · have hiI : (i : Int) < p.size := by omega
      go_wp2_with (at_make; refine wpList_mkB _ rfl _ _ rfl .i64 .i64 m rfl rfl (by omega) ?_; intro w3 hr3 hb3 hs3)
      have hbw3 := hbr.trans (hb3.mono hbr.size)
      have hfl : fb < wr.heap.size := World.rowIs.lt HROW.out
      have hrf3 : RowB w3 fb m (F i) := World.rowIs.of_block HROW.out (hb3.block fb hfl)
      have hne : fb ≠ wr.heap.size := by omega
      have hnb : w.heap.size ≤ wr.heap.size := hbr.size
      generalize wr.heap.size = nb at *
      have HR3 := Lib.hid (And.intro hrf3 hr3); clear hrf3 hr3 hs3 hb3 HROW
      go_wp2_with fail
      go_loopw [8, 34, 37, 60] (fun _ kv _ _ wr => ∃ k : Nat, k ≤ m ∧ kv = .int .i64 k ∧ RowB wr fb m (F i) ∧ RowB wr nb m (fun j => if j < k then F (i + 1) j else false) ∧ Below w.heap.size w wr) (fun _ kv _ _ _ => m - (intOf kv).toNat)
      case atStart => exact ⟨0, Nat.zero_le _, rfl, HR3.out.1, RowB.congr HR3.out.2 (fun j hj => by show false = (if j < 0 then F (i + 1) j else false); rw [if_neg (by omega)]), hbw3⟩
      case round =>
        obtain ⟨k, hk, rfl, hrF, hrN, hbk⟩ := hrel
        have HRF := Lib.hid hrF; clear hrF
        have HRN := Lib.hid hrN; clear hrN
        by_cases hkm : k < m
        · have hkI : (k : Int) < m := by omega
          have hip : i < p.data.toList.length := by have := HL.out.1; omega
          have hpi : p.data.toList[i] = p[i] := by simp; rfl
          have hcF := World.rowIs.cell HRF.out hkm
          have hcN := World.rowIs.cell HRN.out hkm
          have hfN := World.rowIs.frozen HRN.out k
          simp only [Nat.lt_irrefl, if_false] at hcN
          by_cases hc : p[i] = 42
          · have e42 : ((p[i].toNat : Int) == 42) = true := by rw [hc]; rfl
            by_cases hk0 : k = 0
            · subst hk0
              have hG : F (i + 1) 0 = F i 0 := HX.out.1 i hip (by rw [hpi]; exact hc)
              have HG := Lib.hid hG; clear hG hc hpi
              generalize hcc : p[i] = cc at *
              generalize F i 0 = a at *
              cases a with
              | true =>
                go_wp2_with fail
                go_roundw
                case rel => exact ⟨1, by omega, by go_num, World.rowIs.setOther HRF.out hne _, RowB.step true HRN.out HG.out, hbk.setCell hnb _⟩
                case measure => simp [intOf]; omega
              | false =>
                go_wp2_with fail
                go_roundw
                case rel => exact ⟨1, by omega, by go_num, World.rowIs.setOther HRF.out hne _, RowB.step false HRN.out HG.out, hbk.setCell hnb _⟩
                case measure => simp [intOf]; omega
            · obtain ⟨k, rfl⟩ : ∃ k', k = k' + 1 := ⟨k - 1, by omega⟩
              have hG : F (i + 1) (k + 1) = (F i (k + 1) || F (i + 1) k) := HX.out.2.1 i k hip (by rw [hpi]; exact hc) (by have := HL.out.2; have := HM.out; omega)
              have hcP := World.rowIs.cell HRN.out (i := k) (by omega)
              simp only [Nat.lt_succ_self, if_true] at hcP
              have HG := Lib.hid hG; clear hG hc hpi hk0
              generalize hcc : p[i] = cc at *
              generalize F i (k + 1) = a at *
              cases a with
              | true =>
                clear hcP
                go_wp2_with fail
                go_roundw
                case rel => exact ⟨k + 1 + 1, by omega, by go_num, World.rowIs.setOther HRF.out hne _, RowB.step true HRN.out HG.out, hbk.setCell hnb _⟩
                case measure => simp [intOf]; omega
              | false =>
                generalize hfb2 : F (i + 1) k = b2 at hcP
                have hk1 : (0 : Int) < (k : Int) + 1 := by omega
                go_wp2_with fail
                go_roundw
                case rel => exact ⟨k + 1 + 1, by omega, by go_num, World.rowIs.setOther HRF.out hne _, RowB.step b2 HRN.out (by rw [HG.out, Bool.false_or]; exact hfb2), hbk.setCell hnb _⟩
                case measure => simp [intOf]; omega
          · have e42 : ((p[i].toNat : Int) == 42) = false := by
              rw [beq_eq_false_iff_ne]
              intro e
              exact hc (UInt8.toNat_inj.1 (show p[i].toNat = (42 : UInt8).toNat by have : (42 : UInt8).toNat = 42 := rfl; omega))
            by_cases hk0 : k = 0
            · subst hk0
              have hG : F (i + 1) 0 = false := HX.out.2.2.1 i hip (by rw [hpi]; exact hc)
              have HG := Lib.hid hG; clear hG hc hpi
              generalize hcc : p[i] = cc at *
              go_wp2_with fail
              go_quiet (fail)
              go_wp2_with fail
              go_roundw
              case rel => exact ⟨1, by omega, by go_num, HRF.out, RowB.still HRN.out HG.out, below_drewN hbk _⟩
              case measure => simp [intOf]; omega
            · obtain ⟨k, rfl⟩ : ∃ k', k = k' + 1 := ⟨k - 1, by omega⟩
              have hks : k < s.data.toList.length := by have := HL.out.2; have := HM.out; omega
              have hks2 : k < s.size := by have := HM.out; omega
              have hG : F (i + 1) (k + 1) = ((p.data.toList[i] == 63 || p.data.toList[i] == s.data.toList[k]) && F i k) := HX.out.2.2.2 i k hip (by rw [hpi]; exact hc) hks
              have hsi : s.data.toList[k] = s[k] := by simp; rfl
              rw [hpi, hsi] at hG
              have hcP := World.rowIs.cell HRF.out (i := k) (by omega)
              have hk1 : (0 : Int) < (k : Int) + 1 := by omega
              have hkS : (k : Int) < s.size := by omega
              have e63 : ((p[i].toNat : Int) == 63) = (p[i] == 63) := by
                by_cases e : p[i] = 63
                · rw [e]; rfl
                · rw [beq_eq_false_iff_ne.2 e, beq_eq_false_iff_ne]
                  intro e2
                  exact e (UInt8.toNat_inj.1 (show p[i].toNat = (63 : UInt8).toNat by have : (63 : UInt8).toNat = 63 := rfl; omega))
              have eps : ((p[i].toNat : Int) == (s[k].toNat : Int)) = (p[i] == s[k]) := by
                by_cases e : p[i] = s[k]
                · rw [e]; simp
                · rw [beq_eq_false_iff_ne.2 e, beq_eq_false_iff_ne]
                  intro e2
                  exact e (UInt8.toNat_inj.1 (by omega))
              have HG := Lib.hid hG; clear hG hc hpi hk0 hsi
              generalize hcc : p[i] = cc at *
              generalize hdd : s[k] = dd at *
              generalize (cc == 63) = q63 at *
              generalize (cc == dd) = qps at *
              generalize hfb2 : F i k = b2 at hcP
              cases q63 with
              | true =>
                clear eps
                go_wp2_with fail
                go_quiet (fail)
                go_wp2_with fail
                go_roundw
                case rel => exact ⟨k + 1 + 1, by omega, by go_num, World.rowIs.setOther HRF.out hne _, RowB.step b2 HRN.out (by rw [HG.out, ← hfb2]; simp), (below_drewN hbk _).setCell hnb _⟩
                case measure => simp [intOf]; omega
              | false =>
                cases qps with
                | true =>
                  go_wp2_with fail
                  go_quiet (fail)
                  go_wp2_with fail
                  go_roundw
                  case rel => exact ⟨k + 1 + 1, by omega, by go_num, World.rowIs.setOther HRF.out hne _, RowB.step b2 HRN.out (by rw [HG.out, ← hfb2]; simp), (below_drewN hbk _).setCell hnb _⟩
                  case measure => simp [intOf]; omega
                | false =>
                  go_wp2_with fail
                  go_quiet (fail)
                  go_wp2_with fail
                  go_roundw
                  case rel => exact ⟨k + 1 + 1, by omega, by go_num, HRF.out, RowB.still HRN.out (by rw [HG.out]; rfl), below_drewN hbk _⟩
                  case measure => simp [intOf]; omega
        · obtain rfl : k = m := by omega
          clear hkm
          have HRN2 := Lib.hid (show RowB wr nb k (F (i + 1)) from RowB.congr HRN.out (fun j hj => by show (if j < k then F (i + 1) j else false) = F (i + 1) j; rw [if_pos hj]))
          go_wp2_with fail
          go_roundw
          case rel => exact ⟨i + 1, nb, by omega, by go_num, rfl, hnb, HRN2.out, hbk⟩
          case measure => simp [intOf]; omega
    · obtain rfl : i = p.size := by omega
      clear hlt
      have hcE := World.rowIs.cell HROW.out (i := s.size) (by have := HM.out; omega)
      generalize hbF : F p.size s.size = b at hcE
      have hsm : (s.size : Int) < m := by omega
      go_wp2_with fail
      go_ret
      exact ⟨by rw [hbF]; first | done | rfl, hbr⟩
end Go.Proofs.YtjglkbbhihlcgaaDoor
