/- The contract of runs.next. -/
import Derived.Test.YthmlfeaoaanmoaaRunsNext
set_option linter.unusedVariables false
namespace Sw
/-- a step: its symbol, how many bits, the number in them -/
structure St where
  sym : Int
  bits : Int
  more : Int
def stepS (sym n : Int) : St × Int := (⟨sym, bitsI sym, min n (capI sym) - leastI sym⟩, min n (capI sym))
def nextS (l : List Int) (ahead : Int) : St × Int :=
  if 11 ≤ cntRun 0 l then stepS 18 (cntRun 0 l) else if 3 ≤ cntRun 0 l then stepS 17 (cntRun 0 l) else if 3 ≤ cntRun ahead l then stepS 16 (cntRun ahead l) else (⟨l.headD 0, 0, 0⟩, 1)
end Sw
namespace Go.Proofs.Ythmlfeaoaanmoaa
open Go.RowKit
open Sw
def stV (s : St) : Array Value := #[.int .i64 s.sym, .int .i64 s.bits, .int .i64 s.more]
theorem step_st (w : World) (sym n : Int) (hs : sym = 16 ∨ sym = 17 ∨ sym = 18) (hn : leastI sym ≤ n) (hm : n ≤ 9223372036854775807) :
    Calls Try.prog 78 #[.int .i64 sym, .int .i64 n] w fun e w' => e = .returned (.tuple #[.agg (stV (stepS sym n).1), .int .i64 (stepS sym n).2]) ∧ Below w.heap.size w w' := step_any w sym n hs hn hm
set_option maxRecDepth 100000 in
set_option maxHeartbeats 2000000 in
theorem next_any (w : World) (A : Option Addr) (n c : Nat) (l : List Int) (ahead : Int) (hl : l.length = n) (hn0 : 0 < n) (hnm : n ≤ maxLen) (hsl : SlOf w 1 intE A l) :
    Calls Try.prog 59 #[.slice A n c, .int .i64 ahead] w fun e w' => e = .returned (.tuple #[.agg (stV (nextS l ahead).1), .int .i64 (nextS l ahead).2]) ∧ Below w.heap.size w w' := by
  have hb : Below w.heap.size w ((w.alloc (Obj.cells #[.slice A n c] 48)).alloc (Obj.cells #[.int .i64 0, .int .i64 0, .int .i64 0] 56)) := ((Below.refl w.heap.size w).alloc (Nat.le_refl _) _).alloc (by simp) _
  have hbox : Blk ((w.alloc (Obj.cells #[.slice A n c] 48)).alloc (Obj.cells #[.int .i64 0, .int .i64 0, .int .i64 0] 56)) w.heap.size 48 #[.slice A n c] := (Blk.new w _ _).alloc _
  have hres : Blk ((w.alloc (Obj.cells #[.slice A n c] 48)).alloc (Obj.cells #[.int .i64 0, .int .i64 0, .int .i64 0] 56)) (w.heap.size + 1) 56 #[.int .i64 0, .int .i64 0, .int .i64 0] := by
    have h := Blk.new (w.alloc (Obj.cells #[.slice A n c] 48)) 56 #[.int .i64 0, .int .i64 0, .int .i64 0]
    rw [World.size_alloc] at h
    exact h
  have hsl2 := hsl.below hb (Nat.le_refl _)
  have R0 := fun W (h1 : SlOf W 1 intE A l) (h2 : W.cell? ⟨w.heap.size, 0, none⟩ = some (.slice A n c)) => run_any W w.heap.size A n c l 0 hl hnm h1 h2
  have R1 := fun W (h1 : SlOf W 1 intE A l) (h2 : W.cell? ⟨w.heap.size, 0, none⟩ = some (.slice A n c)) => run_any W w.heap.size A n c l ahead hl hnm h1 h2
  have hz := cntRun_le 0 l
  have ha := cntRun_le ahead l
  have HR0 := Lib.hid R0; clear R0
  have HR1 := Lib.hid R1; clear R1
  have HB := Lib.hid hb; clear hb
  have HX := Lib.hid hbox; clear hbox
  have HG := Lib.hid hres; clear hres
  have HSL := Lib.hid hsl2; clear hsl2
  have L18 := Lib.hid (fun W => least_any W 18)
  have L17 := Lib.hid (fun W => least_any W 17)
  have L16 := Lib.hid (fun W => least_any W 16)
  rw [show leastI 18 = 11 by rfl] at L18
  rw [show leastI 17 = 3 by rfl] at L17
  rw [show leastI 16 = 3 by rfl] at L16
  have hnx : nextS l ahead = if 11 ≤ cntRun 0 l then stepS 18 (cntRun 0 l) else if 3 ≤ cntRun 0 l then stepS 17 (cntRun 0 l) else if 3 ≤ cntRun ahead l then stepS 16 (cntRun ahead l) else (⟨l.headD 0, 0, 0⟩, 1) := rfl
  unfold maxLen at hnm
  by_cases hz1 : 11 ≤ cntRun 0 l
  · have hnext : nextS l ahead = stepS 18 (cntRun 0 l) := by rw [hnx, if_pos hz1]
    clear hnx
    generalize cntRun 0 l = N at *
    have hst := fun W => step_st W 18 N (by omega) (by rw [show leastI 18 = 11 by rfl]; omega) (by omega)
    rw [hnext]
    clear hnext
    generalize stepS 18 N = r at *
    obtain ⟨⟨sa, sb, sc⟩, sd⟩ := r
    simp only [stV] at hst ⊢
    have ST := Lib.hid hst; clear hst
    go_enter Try.func59, Try.ntmps59
    go_wp2_with fail
    refine (HR0.out _ HSL.out (HX.out.cell 0)).mono ?_
    rintro e w1 ⟨rfl, rfl⟩
    go_wp2_with fail
    refine (HR1.out _ HSL.out (HX.out.cell 0)).mono ?_
    rintro e w1 ⟨rfl, rfl⟩
    go_wp2_with (go_at_call 60; first | (((with_reducible refine (L18.out _).mono ?_); rintro e w' ⟨rfl, rfl⟩)) | (((with_reducible refine (L17.out _).mono ?_); rintro e w' ⟨rfl, rfl⟩)) | (((with_reducible refine (L16.out _).mono ?_); rintro e w' ⟨rfl, rfl⟩)))
    refine (ST.out _).mono ?_
    rintro e w3 ⟨rfl, hb3⟩
    have hG := HG.out.below hb3 HG.out.lt
    have hw3 := HB.out.trans (hb3.mono (by simp; omega))
    have g0 := hG.cell 0
    have g1 := hG.cell 1
    have g2 := hG.cell 2
    have f0 := hG.frozen 0
    have f1 := hG.frozen 1
    have f2 := hG.frozen 2
    simp at g0 g1 g2
    go_wp2_with fail
    refine bodyPost_ret (res_blk_tmp rfl _ _ (w.heap.size + 1) 56 #[.int .i64 sa, .int .i64 sb, .int .i64 sc] _ rfl (((hG.put 0 (.int .i64 sa)).put 1 (.int .i64 sb)).put 2 (.int .i64 sc)) Try.underlying56 rfl (by kernel_rfl)) rfl ⟨rfl, ?_⟩
    exact ((hw3.setCell (by simp) _).setCell (by simp) _).setCell (by simp) _
  by_cases hz2 : 3 ≤ cntRun 0 l
  · have hnext : nextS l ahead = stepS 17 (cntRun 0 l) := by rw [hnx, if_neg hz1, if_pos hz2]
    clear hnx
    generalize cntRun 0 l = N at *
    have hst := fun W => step_st W 17 N (by omega) (by rw [show leastI 17 = 3 by rfl]; omega) (by omega)
    rw [hnext]
    clear hnext
    generalize stepS 17 N = r at *
    obtain ⟨⟨sa, sb, sc⟩, sd⟩ := r
    simp only [stV] at hst ⊢
    have ST := Lib.hid hst; clear hst
    go_enter Try.func59, Try.ntmps59
    go_wp2_with fail
    refine (HR0.out _ HSL.out (HX.out.cell 0)).mono ?_
    rintro e w1 ⟨rfl, rfl⟩
    go_wp2_with fail
    refine (HR1.out _ HSL.out (HX.out.cell 0)).mono ?_
    rintro e w1 ⟨rfl, rfl⟩
    go_wp2_with (go_at_call 60; first | (((with_reducible refine (L18.out _).mono ?_); rintro e w' ⟨rfl, rfl⟩)) | (((with_reducible refine (L17.out _).mono ?_); rintro e w' ⟨rfl, rfl⟩)) | (((with_reducible refine (L16.out _).mono ?_); rintro e w' ⟨rfl, rfl⟩)))
    refine (ST.out _).mono ?_
    rintro e w3 ⟨rfl, hb3⟩
    have hG := HG.out.below hb3 HG.out.lt
    have hw3 := HB.out.trans (hb3.mono (by simp; omega))
    have g0 := hG.cell 0
    have g1 := hG.cell 1
    have g2 := hG.cell 2
    have f0 := hG.frozen 0
    have f1 := hG.frozen 1
    have f2 := hG.frozen 2
    simp at g0 g1 g2
    go_wp2_with fail
    refine bodyPost_ret (res_blk_tmp rfl _ _ (w.heap.size + 1) 56 #[.int .i64 sa, .int .i64 sb, .int .i64 sc] _ rfl (((hG.put 0 (.int .i64 sa)).put 1 (.int .i64 sb)).put 2 (.int .i64 sc)) Try.underlying56 rfl (by kernel_rfl)) rfl ⟨rfl, ?_⟩
    exact ((hw3.setCell (by simp) _).setCell (by simp) _).setCell (by simp) _
  by_cases hz3 : 3 ≤ cntRun ahead l
  · have hnext : nextS l ahead = stepS 16 (cntRun ahead l) := by rw [hnx, if_neg hz1, if_neg hz2, if_pos hz3]
    clear hnx
    generalize cntRun 0 l = M at *
    generalize cntRun ahead l = N at *
    have hst := fun W => step_st W 16 N (by omega) (by rw [show leastI 16 = 3 by rfl]; omega) (by omega)
    rw [hnext]
    clear hnext
    generalize stepS 16 N = r at *
    obtain ⟨⟨sa, sb, sc⟩, sd⟩ := r
    simp only [stV] at hst ⊢
    have ST := Lib.hid hst; clear hst
    go_enter Try.func59, Try.ntmps59
    go_wp2_with fail
    refine (HR0.out _ HSL.out (HX.out.cell 0)).mono ?_
    rintro e w1 ⟨rfl, rfl⟩
    go_wp2_with fail
    refine (HR1.out _ HSL.out (HX.out.cell 0)).mono ?_
    rintro e w1 ⟨rfl, rfl⟩
    go_wp2_with (go_at_call 60; first | (((with_reducible refine (L18.out _).mono ?_); rintro e w' ⟨rfl, rfl⟩)) | (((with_reducible refine (L17.out _).mono ?_); rintro e w' ⟨rfl, rfl⟩)) | (((with_reducible refine (L16.out _).mono ?_); rintro e w' ⟨rfl, rfl⟩)))
    refine (ST.out _).mono ?_
    rintro e w3 ⟨rfl, hb3⟩
    have hG := HG.out.below hb3 HG.out.lt
    have hw3 := HB.out.trans (hb3.mono (by simp; omega))
    have g0 := hG.cell 0
    have g1 := hG.cell 1
    have g2 := hG.cell 2
    have f0 := hG.frozen 0
    have f1 := hG.frozen 1
    have f2 := hG.frozen 2
    simp at g0 g1 g2
    go_wp2_with fail
    refine bodyPost_ret (res_blk_tmp rfl _ _ (w.heap.size + 1) 56 #[.int .i64 sa, .int .i64 sb, .int .i64 sc] _ rfl (((hG.put 0 (.int .i64 sa)).put 1 (.int .i64 sb)).put 2 (.int .i64 sc)) Try.underlying56 rfl (by kernel_rfl)) rfl ⟨rfl, ?_⟩
    exact ((hw3.setCell (by simp) _).setCell (by simp) _).setCell (by simp) _
  · have hnext : nextS l ahead = (⟨l.headD 0, 0, 0⟩, 1) := by rw [hnx, if_neg hz1, if_neg hz2, if_neg hz3]
    clear hnx
    obtain ⟨bb, off, hA, hbb, hcs⟩ := hsl (by omega)
    subst hA
    have hc0 := hcs 0 (by omega) 0 (by omega)
    simp [intE] at hc0
    have hhead : l.headD 0 = l[0]'(by omega) := by
      match l, hl with
      | [], hl => simp at hl; omega
      | x :: _, _ => rfl
    rw [hhead] at hnext
    rw [hnext]
    have hne : bb ≠ w.heap.size := by omega
    have hne1 : bb ≠ w.heap.size + 1 := by omega
    have hg0 := HG.out.frozen 0
    clear hcs hnext hhead hsl
    generalize l[0]'(by omega) = v0 at *
    generalize cntRun 0 l = M at *
    generalize cntRun ahead l = N at *
    simp only [stV]
    go_enter Try.func59, Try.ntmps59
    go_wp2_with fail
    refine (HR0.out _ HSL.out (HX.out.cell 0)).mono ?_
    rintro e w1 ⟨rfl, rfl⟩
    go_wp2_with fail
    refine (HR1.out _ HSL.out (HX.out.cell 0)).mono ?_
    rintro e w1 ⟨rfl, rfl⟩
    go_wp2_with (go_at_call 60; first | (((with_reducible refine (L18.out _).mono ?_); rintro e w' ⟨rfl, rfl⟩)) | (((with_reducible refine (L17.out _).mono ?_); rintro e w' ⟨rfl, rfl⟩)) | (((with_reducible refine (L16.out _).mono ?_); rintro e w' ⟨rfl, rfl⟩)))
    have hG2 : Blk ((w.alloc (Obj.cells #[.slice (some ⟨bb, off, none⟩) n c] 48)).alloc (Obj.cells #[.int .i64 v0, .int .i64 0, .int .i64 0] 56)) (w.heap.size + 1) 56 #[.int .i64 v0, .int .i64 0, .int .i64 0] := by
      have h := Blk.new (w.alloc (Obj.cells #[.slice (some ⟨bb, off, none⟩) n c] 48)) 56 #[.int .i64 v0, .int .i64 0, .int .i64 0]
      rw [World.size_alloc] at h
      exact h
    have hb2 : Below w.heap.size w ((w.alloc (Obj.cells #[.slice (some ⟨bb, off, none⟩) n c] 48)).alloc (Obj.cells #[.int .i64 v0, .int .i64 0, .int .i64 0] 56)) := ((Below.refl w.heap.size w).alloc (Nat.le_refl _) _).alloc (by simp) _
    first
      | exact bodyPost_ret (res_blk_tmp rfl _ _ (w.heap.size + 1) 56 #[.int .i64 v0, .int .i64 0, .int .i64 0] _ rfl hG2 Try.underlying56 rfl (by kernel_rfl)) rfl ⟨rfl, hb2⟩
      | exact bodyPost_ret (res_blk_tmp rfl _ _ (w.heap.size + 1) 56 #[.int .i64 v0, .int .i64 0, .int .i64 0] _ rfl (((HG.out.put 0 (.int .i64 v0)).put 1 (.int .i64 0)).put 2 (.int .i64 0)) Try.underlying56 rfl (by kernel_rfl)) rfl ⟨rfl, ((HB.out.setCell (by simp) _).setCell (by simp) _).setCell (by simp) _⟩
end Go.Proofs.Ythmlfeaoaanmoaa
