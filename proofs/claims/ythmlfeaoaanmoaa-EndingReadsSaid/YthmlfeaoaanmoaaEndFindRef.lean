/- The contract of the reference's Find of layer 21. -/
import Derived.Test.YthmlfeaoaanmoaaEndRef
set_option linter.unusedVariables false
set_option linter.unusedSimpArgs false
namespace Go.Proofs.Ythmlfeaoaanmoaa
open Go.RowKit
open Sw
def agW (t : ByteArray) : Array Value := #[.int .i64 (numL t 8 2), .int .i64 (numL t 12 4), .int .i64 (numL t 16 4), .int .i64 (numL t 20 2)]
def agZ : Array Value := #[.int .i64 0, .int .i64 0, .int .i64 0, .int .i64 0]
/-- the last place ahead of k at which an end is read -/
def findF (s : ByteArray) : Nat → Option Nat
  | 0 => none
  | k + 1 => if okR (s.extract k s.size) then some k else findF s k
def findC (s : ByteArray) : Array Value := match findF s ((s.size : Int) - 21).toNat with | some k => agW (s.extract k s.size) | none => agZ
def findN (s : ByteArray) : Int := match findF s ((s.size : Int) - 21).toNat with | some k => k | none => 0
def findB (s : ByteArray) : Bool := match findF s ((s.size : Int) - 21).toNat with | some k => true | none => false
theorem findF_stop (s : ByteArray) (k m : Nat) (h : findF s (k + 1) = findF s m) (hok : okR (s.extract k s.size) = true) : findF s m = some k := by
  rw [← h, findF, if_pos hok]
theorem findF_step (s : ByteArray) (k m : Nat) (h : findF s (k + 1) = findF s m) (hok : ¬ okR (s.extract k s.size) = true) : findF s k = findF s m := by
  rw [← h, findF, if_neg hok]
theorem res_blk_tmp2 {P : Program} {fn : Func} {p q r : Tmp} {ty : TypeId} (h : fn.results = #[.cell p ty, .tmp q, .tmp r]) (tmps : Array Value) (w : World) (g : Nat) (t : TypeId) (cs : Array Value) (d : TypeDesc)
    (hp : tmps.getD p undef = .pointer (some ⟨g, 0, none⟩)) (hg : Blk w g t cs)
    (hu : P.underlying ty = some d) (hd : (match d with | .struct _ | .array _ _ => true | _ => false) = true) (hi : (P.info? ty).map (·.size) = some cs.size) :
    (results fn tmps).run P w = .ok (.tuple #[.agg cs, tmps.getD q undef, tmps.getD r undef]) w := by
  have hp' : tmps[p]?.getD undef = .pointer (some ⟨g, 0, none⟩) := by simpa using hp
  simp [results, h, hp', asAddr, run_loadVar_row w g t ty cs (0, 0) d hg hu hd hi]
set_option maxRecDepth 100000 in
set_option maxHeartbeats 4000000 in
theorem refFind_any (s : ByteArray) (w : World) (hs : s.size ≤ 400) :
    Calls Try.prog 51 #[.string s] w fun e w' => e = .returned (.tuple #[.agg (findC s), .int .i64 (findN s), .bool (findB s)]) ∧ Below w.heap.size w w' := by
  have hRd := fun (k : Nat) (hk : k + 22 ≤ s.size) W => refRead_in s k W (by unfold maxLen; omega) hk
  have HRD := Lib.hid hRd; clear hRd
  have hM := Blk.new w 87 #[.int .i64 0, .int .i64 0, .int .i64 0, .int .i64 0]
  have hB : Below w.heap.size w (w.alloc (.cells #[.int .i64 0, .int .i64 0, .int .i64 0, .int .i64 0] 87)) := (Below.refl _ w).alloc (Nat.le_refl _) _
  have HM := Lib.hid (And.intro hM hB); clear hM hB
  go_enter Try.func51, Try.ntmps51
  go_wp2_with fail
  go_loopw [5] (fun v wr => ∃ a : Int, v = .int .i64 a ∧ -22 ≤ a ∧ a ≤ (s.size : Int) - 22 ∧ findF s (a + 1).toNat = findF s ((s.size : Int) - 21).toNat ∧ Blk wr w.heap.size 87 #[.int .i64 0, .int .i64 0, .int .i64 0, .int .i64 0] ∧ Below w.heap.size w wr) (fun v _ => (intOf v + 23).toNat)
  case atStart => exact ⟨(s.size : Int) - 22, rfl, by omega, by omega, by rw [show (s.size : Int) - 22 + 1 = (s.size : Int) - 21 by omega], HM.out.1, HM.out.2⟩
  case round =>
    obtain ⟨a, rfl, ha1, ha2, hf, hm, hb⟩ := hrel
    have HF := Lib.hid hf; clear hf
    have HB := Lib.hid (And.intro hm hb); clear hm hb
    by_cases h0 : 0 ≤ a
    · obtain ⟨k, rfl⟩ := Int.eq_ofNat_of_zero_le h0
      have hk : k + 22 ≤ s.size := by omega
      have hfar : (s.size : Int) - k ≤ 65557 := by omega
      have hrd := HRD.out k hk
      cases hok : okR (s.extract k s.size) with
      | true =>
        have hst := findF_stop s k ((s.size : Int) - 21).toNat (by have := HF.out; rw [show ((k : Int) + 1).toNat = k + 1 from rfl] at this; exact this) hok
        have hw : endW (s.extract k s.size) = .tuple #[.agg #[.int .i64 (numL (s.extract k s.size) 8 2), .int .i64 (numL (s.extract k s.size) 12 4), .int .i64 (numL (s.extract k s.size) 16 4), .int .i64 (numL (s.extract k s.size) 20 2)], .bool true] := by unfold endW; rw [if_pos hok]
        have hcc : findC s = #[.int .i64 (numL (s.extract k s.size) 8 2), .int .i64 (numL (s.extract k s.size) 12 4), .int .i64 (numL (s.extract k s.size) 16 4), .int .i64 (numL (s.extract k s.size) 20 2)] := by unfold findC; rw [hst]; rfl
        have hnn : findN s = k := by unfold findN; rw [hst]
        have hbb : findB s = true := by unfold findB; rw [hst]
        rw [hw] at hrd
        have HE := Lib.hid (And.intro hcc (And.intro hnn hbb)); clear hst hw hok hcc hnn hbb
        have HRD2 := Lib.hid hrd; clear hrd
        generalize numL (s.extract k s.size) 8 2 = v2 at *
        generalize numL (s.extract k s.size) 12 4 = v4 at *
        generalize numL (s.extract k s.size) 16 4 = v5 at *
        generalize numL (s.extract k s.size) 20 2 = v6 at *
        go_wp2_with fail
        refine (HRD2.out _).mono ?_
        rintro e w2 ⟨rfl, h2⟩
        have hm2 := (HB.out.1.below h2 HB.out.1.lt).alloc (.cells #[.int .i64 (v2 : Int), .int .i64 (v4 : Int), .int .i64 (v5 : Int), .int .i64 (v6 : Int)] 87)
        have hx2 := Blk.new w2 87 #[.int .i64 (v2 : Int), .int .i64 (v4 : Int), .int .i64 (v5 : Int), .int .i64 (v6 : Int)]
        have hb2 := (HB.out.2.trans (h2.mono HB.out.2.size)).alloc (Nat.le_trans HB.out.2.size h2.size) (.cells #[.int .i64 (v2 : Int), .int .i64 (v4 : Int), .int .i64 (v5 : Int), .int .i64 (v6 : Int)] 87)
        have HB2 := Lib.hid (And.intro hm2 (And.intro hb2 hx2)); clear hm2 hb2 h2 hx2
        have m0 := HB2.out.1.cell 0
        have m1 := HB2.out.1.cell 1
        have m2 := HB2.out.1.cell 2
        have m3 := HB2.out.1.cell 3
        have f0 := HB2.out.1.frozen 0
        have f1 := HB2.out.1.frozen 1
        have f2 := HB2.out.1.frozen 2
        have f3 := HB2.out.1.frozen 3
        simp at m0 m1 m2 m3
        go_wp2_with fail
        refine bodyPost_ret (res_blk_tmp2 rfl _ _ w.heap.size 87 #[.int .i64 (v2 : Int), .int .i64 (v4 : Int), .int .i64 (v5 : Int), .int .i64 (v6 : Int)] _ rfl ((((HB2.out.1.put 0 (.int .i64 v2)).put 1 (.int .i64 v4)).put 2 (.int .i64 v5)).put 3 (.int .i64 v6)) Try.underlying87 rfl (by kernel_rfl)) rfl ⟨by rw [HE.out.1, HE.out.2.1, HE.out.2.2]; rfl, ?_⟩
        exact (((HB2.out.2.1.setCell (p := ⟨w.heap.size, 0, none⟩) (Nat.le_refl _) _).setCell (p := ⟨w.heap.size, 1, none⟩) (Nat.le_refl _) _).setCell (p := ⟨w.heap.size, 2, none⟩) (Nat.le_refl _) _).setCell (p := ⟨w.heap.size, 3, none⟩) (Nat.le_refl _) _
      | false =>
        have hw : endW (s.extract k s.size) = .tuple #[.agg #[.int .i64 0, .int .i64 0, .int .i64 0, .int .i64 0], .bool false] := by unfold endW; rw [if_neg (by rw [hok]; simp)]
        rw [hw] at hrd
        have hst := findF_step s k ((s.size : Int) - 21).toNat (by have := HF.out; rw [show ((k : Int) + 1).toNat = k + 1 from rfl] at this; exact this) (by rw [hok]; simp)
        have HST := Lib.hid hst; clear hst hw hok
        have HRD2 := Lib.hid hrd; clear hrd
        go_wp2_with fail
        refine (HRD2.out _).mono ?_
        rintro e w2 ⟨rfl, h2⟩
        have hm2 := (HB.out.1.below h2 HB.out.1.lt).alloc (.cells #[.int .i64 0, .int .i64 0, .int .i64 0, .int .i64 0] 87)
        have hb2 := (HB.out.2.trans (h2.mono HB.out.2.size)).alloc (Nat.le_trans HB.out.2.size h2.size) (.cells #[.int .i64 0, .int .i64 0, .int .i64 0, .int .i64 0] 87)
        have HB2 := Lib.hid (And.intro hm2 hb2); clear hm2 hb2 h2
        go_wp2_with fail
        go_roundw
        case rel => exact ⟨(k : Int) - 1, rfl, by omega, by omega, by rw [show ((k : Int) - 1 + 1).toNat = k by omega]; exact HST.out, HB2.out.1, HB2.out.2⟩
        case measure => simp only [intOf]; omega
    · have hF : findF s ((s.size : Int) - 21).toNat = none := by rw [← HF.out, show (a + 1).toNat = 0 by omega]; rfl
      have hc : findC s = #[.int .i64 0, .int .i64 0, .int .i64 0, .int .i64 0] := by unfold findC; rw [hF]; rfl
      have hn : findN s = 0 := by unfold findN; rw [hF]
      have hbb : findB s = false := by unfold findB; rw [hF]
      have HE := Lib.hid (And.intro hc (And.intro hn hbb)); clear hF hc hn hbb
      have m0 := HB.out.1.cell 0
      have m1 := HB.out.1.cell 1
      have m2 := HB.out.1.cell 2
      have m3 := HB.out.1.cell 3
      have f0 := HB.out.1.frozen 0
      have f1 := HB.out.1.frozen 1
      have f2 := HB.out.1.frozen 2
      have f3 := HB.out.1.frozen 3
      simp at m0 m1 m2 m3
      go_wp2_with fail
      refine bodyPost_ret (res_blk_tmp2 rfl _ _ w.heap.size 87 #[.int .i64 0, .int .i64 0, .int .i64 0, .int .i64 0] _ rfl ((((HB.out.1.put 0 (.int .i64 0)).put 1 (.int .i64 0)).put 2 (.int .i64 0)).put 3 (.int .i64 0)) Try.underlying87 rfl (by kernel_rfl)) rfl ⟨by rw [HE.out.1, HE.out.2.1, HE.out.2.2]; rfl, ?_⟩
      exact (((HB.out.2.setCell (p := ⟨w.heap.size, 0, none⟩) (Nat.le_refl _) _).setCell (p := ⟨w.heap.size, 1, none⟩) (Nat.le_refl _) _).setCell (p := ⟨w.heap.size, 2, none⟩) (Nat.le_refl _) _).setCell (p := ⟨w.heap.size, 3, none⟩) (Nat.le_refl _) _
end Go.Proofs.Ythmlfeaoaanmoaa
