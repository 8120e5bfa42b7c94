/- Keys of three bytes: what a map keyed by them asks. -/
import Derived.Test.YthmlfeaoaanmoaaLzTok
import Derived.Test.YthmlfeaoaanmoaaLift
import Derived.Maps.Own
import Derived.Maps.OwnOps
import Derived.Maps.OwnSet
import Derived.Maps.Views
import Derived.DeepKeys4
import Derived.StillTailTactics
import Derived.RegionTactic
import Derived.BigRegion
import Derived.IntWalk
set_option linter.unusedVariables false
set_option linter.unusedSimpArgs false
namespace Go.Proofs.Ythmlfeaoaanmoaa
open Go Go.RowKit
open Sw
theorem three_keyed : Maps.Keyed Try.prog 124 := Maps.Keyed.of_law (deep_law_laid laidOut (m := 3) (by omega) (of_decide_eq_true (by kernel_rfl)) (by kernel_rfl) (by kernel_rfl))
/-- the cells of a key -/
def keyC (x y z : UInt8) : Array Value := #[.int .u8 (x.toNat : Int), .int .u8 (y.toNat : Int), .int .u8 (z.toNat : Int)]
theorem wf_u8 (x : UInt8) : (Lit.int .u8 (x.toNat : Int)).wf = true := by
  have := x.toNat_lt
  simp [Lit.wf, IntKind.min, IntKind.max, IntKind.bits, IntKind.signed]
  omega
def keyL (x y z : UInt8) : Lit := .string (keyBytes [.int .u8 (x.toNat : Int), .int .u8 (y.toNat : Int), .int .u8 (z.toNat : Int)])
set_option maxRecDepth 100000 in
theorem keyOf_three (x y z : UInt8) : keyOf Try.prog 124 (.agg (keyC x y z)) = some (keyL x y z) := by
  obtain ⟨d, hd⟩ : ∃ d, Try.prog.types.size = d + 1 := ⟨Try.prog.types.size - 1, by kernel_rfl⟩
  have hkt : Try.prog.keyType 124 = true := by kernel_rfl
  have hc1 : Try.prog.cellsOf 5 = 1 := by kernel_rfl
  have hc3 : Try.prog.cellsOf 124 = 3 := by kernel_rfl
  unfold keyOf
  rw [Try.underlying124]
  have hfm : Value.formed Try.prog 124 (.agg (keyC x y z)) = true := by simp [Value.formed, Try.underlying124, hc3, keyC]
  have h8 : ∀ (d : Nat) (b : UInt8), Try.prog.keyLits (d + 1) 5 [.int .u8 (b.toNat : Int)] = some [.int .u8 (b.toNat : Int)] := fun d b => by
    have := wf_u8 b
    simp [Program.keyLits, Try.underlying5, this]
  have h3 : Try.prog.keyLits (Try.prog.types.size + 1) 124 (Value.cells (.agg (keyC x y z))).toList = some [.int .u8 (x.toNat : Int), .int .u8 (y.toNat : Int), .int .u8 (z.toNat : Int)] := by
    rw [hd]
    simp only [Program.keyLits, Try.underlying124, hc3, hc1, Value.cells, keyC]
    simp [List.range_succ, wf_u8]
  simp only [hkt, hfm, Bool.true_and, if_true, h3]
  rfl
set_option maxRecDepth 100000 in
set_option maxHeartbeats 4000000 in
theorem key_any (w : World) (g a : Nat) (s : ByteArray) (hs : s.size ≤ 1000000) (h0 : a < s.size) (h1 : a + 1 < s.size) (h2 : a + 2 < s.size) (hg : w.cell? ⟨g, 0, none⟩ = some (.string s)) :
    Calls Try.prog 80 #[.pointer (some ⟨g, 0, none⟩), .int .i64 a] w fun e w' => e = .returned (.agg (keyC s[a] s[a + 1] s[a + 2])) ∧ Below w.heap.size w w' := by
  have hglt : g < w.heap.size := World.block_lt_of_cell? w ⟨g, 0, none⟩ hg
  have hne : g ≠ w.heap.size := by omega
  have q1 : IntKind.i64.wrap ((a : Int) + 1) = (a : Int) + 1 := IntWalk.i64_in _ (by omega)
  have q2 : IntKind.i64.wrap ((a : Int) + 2) = (a : Int) + 2 := IntWalk.i64_in _ (by omega)
  have r1 : ((a : Int) + 1).toNat = a + 1 := by omega
  have r2 : ((a : Int) + 2).toNat = a + 2 := by omega
  have i0 : (0 : Int) ≤ a := by omega
  have i1 : (0 : Int) ≤ (a : Int) + 1 := by omega
  have i2 : (0 : Int) ≤ (a : Int) + 2 := by omega
  have j0 : (a : Int) < s.size := by omega
  have j1 : (a : Int) + 1 < s.size := by omega
  have j2 : (a : Int) + 2 < s.size := by omega
  go_enter Try.func80, Try.ntmps80
  go_wp2_with fail
  have hB := Blk.new w 124 #[.int .u8 0, .int .u8 0, .int .u8 0]
  have hb1 : Below w.heap.size w (w.alloc (Obj.cells #[.int .u8 0, .int .u8 0, .int .u8 0] 124)) := (Below.refl _ _).alloc (Nat.le_refl _) _
  have hg1 := (hb1.cell (p := ⟨g, 0, none⟩) hglt).trans hg
  obtain ⟨k, hk⟩ : ∃ k, k = w.heap.size := ⟨_, rfl⟩
  rw [← hk] at hB hne ⊢
  have hk0 : w.heap.size ≤ k := by omega
  clear hk
  have c0 := hB.cell 0
  have c1 := hB.cell 1
  have c2 := hB.cell 2
  have f0 := hB.frozen 0
  have f1 := hB.frozen 1
  have f2 := hB.frozen 2
  simp at c0 c1 c2
  clear hg
  generalize w.alloc (Obj.cells #[.int .u8 0, .int .u8 0, .int .u8 0] 124) = w1 at *
  have HB := Lib.hid hB; clear hB
  go_region
  go_wp2_with fail
  refine bodyPost_ret (results_cell_row rfl _ _ k 124 (keyC s[a] s[a + 1] s[a + 2]) (0, 0) _ rfl (((HB.out.put 0 (.int .u8 (s[a].toNat : Int))).put 1 (.int .u8 (s[a + 1].toNat : Int))).put 2 (.int .u8 (s[a + 2].toNat : Int))) Try.underlying124 rfl (by kernel_rfl)) rfl ⟨rfl, ?_⟩
  exact (((hb1.setCell (by simp; omega) _).setCell (by simp; omega) _).setCell (by simp; omega) _).drew
end Go.Proofs.Ythmlfeaoaanmoaa
