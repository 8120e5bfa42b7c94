/- Contracts of dos.Split, dos.Right and dos.Of. -/
import Derived.Test.YthmlfeaoaanmoaaDosSplit
import Derived.Deep.WholeRow
set_option linter.unusedVariables false
namespace Go.Proofs.Ythmlfeaoaanmoaa
open Go.RowKit
open Sw
theorem dosRight_any (w : World) (t : Int) (h0 : 0 ≤ t) (h1 : t < 4294967296) :
    Calls Try.prog 20 #[.int .u32 t] w fun e w' => e = .returned (.bool (decide (splitD t).Ok)) ∧ Below w.heap.size w w' := by
  have H1 := Lib.hid (fun W => split_any W t h0 h1)
  have H2 := Lib.hid (fun W => right_any W (splitD t) (splitD_in t h0 h1))
  generalize splitD t = x at *
  go_enter Try.func20, Try.ntmps20
  go_wp2_with (first | (go_at_call 53; refine (H1.out _).mono ?_; rintro e w1 ⟨rfl, hb1⟩) | (go_at_call 54; refine (H2.out _).mono ?_; rintro e w2 ⟨rfl, hb2⟩))
  go_ret
  exact ⟨rfl, hb1.trans (hb2.mono hb1.size)⟩
theorem blk_setRow {w : World} {g : Nat} {t : TypeId} {cs : Array Value} (h : Blk w g t cs) (ds : Array Value) : Blk (w.setRow g ds) g t ds := setRow_heap w g cs ds _ _ h
theorem below_setRow {B : Nat} {a w : World} {g : Nat} (h : Below B a w) (hg : B ≤ g) (ds : Array Value) : Below B a (w.setRow g ds) :=
  h.trans ⟨rfl, rfl, rfl, by simp, fun i hi => setRow_other w g i ds (by omega)⟩
theorem size_of_alloc {w w1 : World} {o : Obj} (h : Below (w.alloc o).heap.size (w.alloc o) w1) : w.heap.size < w1.heap.size := by
  have := h.size
  rw [World.size_alloc] at this
  omega
theorem timeInfo : (Try.prog.info? 26).map (·.size) = some 6 := by kernel_rfl
/-- the parts, or none -/
def zeroD : Dt := ⟨0, 0, 0, 0, 0, 0⟩
def splitOr (t : Int) : Dt := if (splitD t).Ok then splitD t else zeroD
theorem dosSplit_any (w : World) (t : Int) (h0 : 0 ≤ t) (h1 : t < 4294967296) :
    Calls Try.prog 15 #[.int .u32 t] w fun e w' => e = .returned (.tuple #[.agg (Dt.v (splitOr t)), .bool (decide (splitD t).Ok)]) ∧ Below w.heap.size w w' := by
  have H1 := Lib.hid (fun W => split_any W t h0 h1)
  have h2 := fun W => right_any W (splitD t) (splitD_in t h0 h1)
  unfold splitOr
  generalize splitD t = x at *
  by_cases hok : x.Ok
  · rw [if_pos hok, decide_eq_true hok]
    rw [decide_eq_true hok] at h2
    have H2 := Lib.hid h2; clear h2
    unfold Dt.v at H1 H2 ⊢
    go_enter Try.func15, Try.ntmps15
    go_wp2_with (go_at_call 53; refine (H1.out _).mono ?_; rintro e w1 ⟨rfl, hb1⟩)
    have hsz : w.heap.size < w1.heap.size := size_of_alloc hb1
    refine (H2.out _).mono ?_
    rintro e w2 ⟨rfl, hb2⟩
    have hX : Blk w2 w1.heap.size 26 #[Value.int IntKind.i64 x.y, Value.int IntKind.i64 x.m, Value.int IntKind.i64 x.d, Value.int IntKind.i64 x.h, Value.int IntKind.i64 x.mi, Value.int IntKind.i64 x.s] := Blk.below (Blk.new w1 26 #[Value.int IntKind.i64 x.y, Value.int IntKind.i64 x.m, Value.int IntKind.i64 x.d, Value.int IntKind.i64 x.h, Value.int IntKind.i64 x.mi, Value.int IntKind.i64 x.s]) hb2 (by rw [World.size_alloc]; omega)
    have hG : Blk w2 w.heap.size 26 #[Value.int IntKind.i64 0, Value.int IntKind.i64 0, Value.int IntKind.i64 0, Value.int IntKind.i64 0, Value.int IntKind.i64 0, Value.int IntKind.i64 0] := Blk.below (Blk.alloc (Blk.below (Blk.new w 26 #[Value.int IntKind.i64 0, Value.int IntKind.i64 0, Value.int IntKind.i64 0, Value.int IntKind.i64 0, Value.int IntKind.i64 0, Value.int IntKind.i64 0]) hb1 (by rw [World.size_alloc]; omega)) _) hb2 (by rw [World.size_alloc]; omega)
    have h1 : Below w.heap.size w w1 := ((Below.refl w.heap.size w).alloc (Nat.le_refl _) (Obj.cells #[Value.int IntKind.i64 0, Value.int IntKind.i64 0, Value.int IntKind.i64 0, Value.int IntKind.i64 0, Value.int IntKind.i64 0, Value.int IntKind.i64 0] 26)).trans (hb1.mono (by simp))
    have h2 := (h1.alloc h1.size (Obj.cells #[Value.int IntKind.i64 x.y, Value.int IntKind.i64 x.m, Value.int IntKind.i64 x.d, Value.int IntKind.i64 x.h, Value.int IntKind.i64 x.mi, Value.int IntKind.i64 x.s] 26)).trans (hb2.mono (by rw [World.size_alloc]; omega))
    have c0 := hX.cell 0; have c1 := hX.cell 1; have c2 := hX.cell 2; have c3 := hX.cell 3; have c4 := hX.cell 4; have c5 := hX.cell 5; have g0 := hG.cell 0; have f0 := hG.frozen 0; have g1 := hG.cell 1; have f1 := hG.frozen 1; have g2 := hG.cell 2; have f2 := hG.frozen 2; have g3 := hG.cell 3; have f3 := hG.frozen 3; have g4 := hG.cell 4; have f4 := hG.frozen 4; have g5 := hG.cell 5; have f5 := hG.frozen 5
    have HG := Lib.hid hG; clear hG hX hb1 hb2
    simp at c0 c1 c2 c3 c4 c5 g0 g1 g2 g3 g4 g5
    have hne : ¬ w1.heap.size = w.heap.size := by omega
    have hne2 : ¬ w.heap.size = w1.heap.size := by omega
    go_wp2_with fail
    refine bodyPost_ret (res_blk_tmp rfl _ _ w.heap.size 26 #[Value.int IntKind.i64 x.y, Value.int IntKind.i64 x.m, Value.int IntKind.i64 x.d, Value.int IntKind.i64 x.h, Value.int IntKind.i64 x.mi, Value.int IntKind.i64 x.s] _ rfl (((((((HG.out).put 0 (Value.int IntKind.i64 x.y)).put 1 (Value.int IntKind.i64 x.m)).put 2 (Value.int IntKind.i64 x.d)).put 3 (Value.int IntKind.i64 x.h)).put 4 (Value.int IntKind.i64 x.mi)).put 5 (Value.int IntKind.i64 x.s)) Try.underlying26 rfl timeInfo) rfl ⟨rfl, ((((((h2).setCell (Nat.le_refl _) _).setCell (Nat.le_refl _) _).setCell (Nat.le_refl _) _).setCell (Nat.le_refl _) _).setCell (Nat.le_refl _) _).setCell (Nat.le_refl _) _⟩
  · rw [if_neg hok, decide_eq_false hok]
    rw [decide_eq_false hok] at h2
    have H2 := Lib.hid h2; clear h2
    unfold zeroD
    unfold Dt.v at H1 H2 ⊢
    go_enter Try.func15, Try.ntmps15
    go_wp2_with (go_at_call 53; refine (H1.out _).mono ?_; rintro e w1 ⟨rfl, hb1⟩)
    have hsz : w.heap.size < w1.heap.size := size_of_alloc hb1
    refine (H2.out _).mono ?_
    rintro e w2 ⟨rfl, hb2⟩
    have hX : Blk w2 w1.heap.size 26 #[Value.int IntKind.i64 x.y, Value.int IntKind.i64 x.m, Value.int IntKind.i64 x.d, Value.int IntKind.i64 x.h, Value.int IntKind.i64 x.mi, Value.int IntKind.i64 x.s] := Blk.below (Blk.new w1 26 #[Value.int IntKind.i64 x.y, Value.int IntKind.i64 x.m, Value.int IntKind.i64 x.d, Value.int IntKind.i64 x.h, Value.int IntKind.i64 x.mi, Value.int IntKind.i64 x.s]) hb2 (by rw [World.size_alloc]; omega)
    have hG : Blk w2 w.heap.size 26 #[Value.int IntKind.i64 0, Value.int IntKind.i64 0, Value.int IntKind.i64 0, Value.int IntKind.i64 0, Value.int IntKind.i64 0, Value.int IntKind.i64 0] := Blk.below (Blk.alloc (Blk.below (Blk.new w 26 #[Value.int IntKind.i64 0, Value.int IntKind.i64 0, Value.int IntKind.i64 0, Value.int IntKind.i64 0, Value.int IntKind.i64 0, Value.int IntKind.i64 0]) hb1 (by rw [World.size_alloc]; omega)) _) hb2 (by rw [World.size_alloc]; omega)
    have h1 : Below w.heap.size w w1 := ((Below.refl w.heap.size w).alloc (Nat.le_refl _) (Obj.cells #[Value.int IntKind.i64 0, Value.int IntKind.i64 0, Value.int IntKind.i64 0, Value.int IntKind.i64 0, Value.int IntKind.i64 0, Value.int IntKind.i64 0] 26)).trans (hb1.mono (by simp))
    have h2 := (h1.alloc h1.size (Obj.cells #[Value.int IntKind.i64 x.y, Value.int IntKind.i64 x.m, Value.int IntKind.i64 x.d, Value.int IntKind.i64 x.h, Value.int IntKind.i64 x.mi, Value.int IntKind.i64 x.s] 26)).trans (hb2.mono (by rw [World.size_alloc]; omega))
    have c0 := hX.cell 0; have c1 := hX.cell 1; have c2 := hX.cell 2; have c3 := hX.cell 3; have c4 := hX.cell 4; have c5 := hX.cell 5; have g0 := hG.cell 0; have f0 := hG.frozen 0; have g1 := hG.cell 1; have f1 := hG.frozen 1; have g2 := hG.cell 2; have f2 := hG.frozen 2; have g3 := hG.cell 3; have f3 := hG.frozen 3; have g4 := hG.cell 4; have f4 := hG.frozen 4; have g5 := hG.cell 5; have f5 := hG.frozen 5
    have HG := Lib.hid hG; clear hG hX hb1 hb2
    simp at c0 c1 c2 c3 c4 c5 g0 g1 g2 g3 g4 g5
    have hne : ¬ w1.heap.size = w.heap.size := by omega
    have hne2 : ¬ w.heap.size = w1.heap.size := by omega
    go_wp2_with fail
    refine bodyPost_ret (res_blk_tmp rfl _ _ w.heap.size 26 #[Value.int IntKind.i64 0, Value.int IntKind.i64 0, Value.int IntKind.i64 0, Value.int IntKind.i64 0, Value.int IntKind.i64 0, Value.int IntKind.i64 0] _ rfl (((((((HG.out).put 0 (Value.int IntKind.i64 0)).put 1 (Value.int IntKind.i64 0)).put 2 (Value.int IntKind.i64 0)).put 3 (Value.int IntKind.i64 0)).put 4 (Value.int IntKind.i64 0)).put 5 (Value.int IntKind.i64 0)) Try.underlying26 rfl timeInfo) rfl ⟨rfl, ((((((h2).setCell (Nat.le_refl _) _).setCell (Nat.le_refl _) _).setCell (Nat.le_refl _) _).setCell (Nat.le_refl _) _).setCell (Nat.le_refl _) _).setCell (Nat.le_refl _) _⟩
theorem or_step (i : Nat) (X c : Int) (hX : 0 ≤ X) (hc : 0 ≤ c) (hi : c < ((2 ^ i : Nat) : Int)) (hlt : ((2 ^ i : Nat) : Int) * X + c < 4294967296) : bits .or .u32 (((2 ^ i : Nat) : Int) * X) c = ((2 ^ i : Nat) : Int) * X + c := by
  obtain ⟨X, rfl⟩ := Int.eq_ofNat_of_zero_le hX
  obtain ⟨c, rfl⟩ := Int.eq_ofNat_of_zero_le hc
  have hc' : c < 2 ^ i := by omega
  have hs : 2 ^ i * X + c < 4294967296 := by
    have e : ((2 ^ i * X + c : Nat) : Int) = ((2 ^ i : Nat) : Int) * (X : Int) + (c : Int) := by rw [Int.natCast_add, Int.natCast_mul]
    rw [← e] at hlt
    omega
  have h := u32_or_nat (2 ^ i * X) c (by omega) (by omega)
  rw [← Nat.two_pow_add_eq_or_of_lt hc' X] at h
  rw [Int.natCast_add, Int.natCast_mul] at h
  exact h
theorem or_add (i : Nat) (K X Y c : Int) (hK : K = ((2 ^ i : Nat) : Int)) (hY : Y = X * K) (hX : 0 ≤ X) (hc : 0 ≤ c) (hi : c < K) (hlt : Y + c < 4294967296) : bits .or .u32 Y c = Y + c := by
  rw [hY, Int.mul_comm X K] at hlt ⊢
  rw [hK] at hi hlt ⊢
  exact or_step i X c hX hc hi hlt
theorem dosOf_bad (w : World) (x : Dt) (hx : Dt.In x) (hok : ¬ x.Ok) :
    Calls Try.prog 18 #[.agg (Dt.v x)] w fun e w' => e = .returned (.tuple #[.int .u32 0, .bool false]) ∧ Below w.heap.size w w' := by
  have h2 := fun W => right_any W x hx
  rw [decide_eq_false hok] at h2
  have H2 := Lib.hid h2; clear h2
  unfold Dt.v at H2 ⊢
  go_enter Try.func18, Try.ntmps18
  go_wp2_with (go_at_call 54; refine (H2.out _).mono ?_; rintro e w2 ⟨rfl, hb2⟩)
  go_ret2
  exact ⟨rfl, ((Below.refl w.heap.size w).alloc (Nat.le_refl _) _).trans (hb2.mono (by simp))⟩
theorem dosOf_any (w : World) (x : Dt) (hx : Dt.In x) (hok : x.Ok) :
    Calls Try.prog 18 #[.agg (Dt.v x)] w fun e w' => e = .returned (.tuple #[.int .u32 (ofD x), .bool true]) ∧ Below w.heap.size w w' := by
  have h2 := fun W => right_any W x hx
  rw [decide_eq_true hok] at h2
  have H2 := Lib.hid h2; clear h2
  have hy := hok.year
  have hl := ofD_lt hok
  have ho : ofD x = (((((x.y - 1980) * 16 + x.m) * 32 + x.d) * 32 + x.h) * 64 + x.mi) * 32 + x.s / 2 := rfl
  have hok2 := hok
  unfold Dt.Ok at hok2
  unfold Dt.v at H2 ⊢
  go_enter Try.func18, Try.ntmps18
  go_wp2_with fail
  refine (H2.out _).mono ?_
  rintro e w2 ⟨rfl, hb2⟩
  have hX : Blk w2 w.heap.size 26 #[.int .i64 x.y, .int .i64 x.m, .int .i64 x.d, .int .i64 x.h, .int .i64 x.mi, .int .i64 x.s] := Blk.below (Blk.new w _ _) hb2 (by rw [World.size_alloc]; omega)
  have h1 := ((Below.refl w.heap.size w).alloc (Nat.le_refl _) (Obj.cells #[.int .i64 x.y, .int .i64 x.m, .int .i64 x.d, .int .i64 x.h, .int .i64 x.mi, .int .i64 x.s] 26)).trans (hb2.mono (by simp))
  have c0 := hX.cell 0
  have c1 := hX.cell 1
  have c2 := hX.cell 2
  have c3 := hX.cell 3
  have c4 := hX.cell 4
  have c5 := hX.cell 5
  simp at c0 c1 c2 c3 c4 c5
  have HO := Lib.hid ho; clear ho
  clear hX hb2
  go_wp2_with fail
  go_ret2
  refine ⟨?_, h1⟩
  have e1 : bits BinOp.or IntKind.u32 ((x.y - 1980) * 33554432) (x.m * 2097152) = (x.y - 1980) * 33554432 + x.m * 2097152 := or_add 25 33554432 (x.y - 1980) _ _ rfl rfl (by omega) (by omega) (by omega) (by omega)
  have e2 := or_add 21 2097152 ((x.y - 1980) * 16 + x.m) ((x.y - 1980) * 33554432 + x.m * 2097152) (x.d * 65536) rfl (by omega) (by omega) (by omega) (by omega) (by omega)
  have e3 := or_add 16 65536 (((x.y - 1980) * 16 + x.m) * 32 + x.d) ((x.y - 1980) * 33554432 + x.m * 2097152 + x.d * 65536) (x.h * 2048) rfl (by omega) (by omega) (by omega) (by omega) (by omega)
  have e4 := or_add 11 2048 ((((x.y - 1980) * 16 + x.m) * 32 + x.d) * 32 + x.h) ((x.y - 1980) * 33554432 + x.m * 2097152 + x.d * 65536 + x.h * 2048) (x.mi * 32) rfl (by omega) (by omega) (by omega) (by omega) (by omega)
  have e5 := or_add 5 32 (((((x.y - 1980) * 16 + x.m) * 32 + x.d) * 32 + x.h) * 64 + x.mi) ((x.y - 1980) * 33554432 + x.m * 2097152 + x.d * 65536 + x.h * 2048 + x.mi * 32) (x.s / 2) rfl (by omega) (by omega) (by omega) (by omega) (by omega)
  rw [e1, e2, e3, e4, e5]
  have hof : ofD x = (x.y - 1980) * 33554432 + x.m * 2097152 + x.d * 65536 + x.h * 2048 + x.mi * 32 + x.s / 2 := by rw [HO.out]; omega
  rw [hof]
  rfl
end Go.Proofs.Ythmlfeaoaanmoaa
