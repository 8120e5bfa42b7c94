/- The walk of DosParts. -/
import Derived.Test.YthmlfeaoaanmoaaLift
import Derived.Test.YthmlfeaoaanmoaaOpen
import Derived.Test.YthmlfeaoaanmoaaDosText
import Derived.Test.YthmlfeaoaanmoaaDosRef
set_option linter.unusedVariables false
namespace Go.Proofs.Ythmlfeaoaanmoaa
open Go.ChangeShapes Go.WideShapes Go.ChangeAt Go.RowKit
open Sw
/-- what lies where: the parts that came in, and the two numbers; the answers' -/
structure DP (w : World) (gA gB : Nat) (a b x : Dt) (y m : Int) (W : World) : Prop where
  A : Blk W gA 26 (Dt.v a)
  B : Blk W gB 24 (Dt.v b)
  X : Blk W w.heap.size 24 (Dt.v x)
  T : Blk W (w.heap.size + 1) 25 #[.int .i64 y, .int .i64 m]
  below : Below w.heap.size w W
theorem DP.keep {w : World} {gA gB : Nat} {a b x : Dt} {y m : Int} (W W' : World) (h : DP w gA gB a b x y m W) (hb : Below W.heap.size W W') : DP w gA gB a b x y m W' :=
  ⟨h.A.below hb h.A.lt, h.B.below hb h.B.lt, h.X.below hb h.X.lt, h.T.below hb h.T.lt, h.below.trans (hb.mono h.below.size)⟩
theorem DP.drew {w : World} {gA gB : Nat} {a b x : Dt} {y m : Int} {W : World} (h : DP w gA gB a b x y m W) : DP w gA gB a b x y m W.drew := ⟨h.A, h.B, h.X, h.T, h.below.drew⟩
theorem DP.xs {w : World} {gA gB : Nat} {a b x : Dt} {y m : Int} {W : World} (h : DP w gA gB a b x y m W) : W.cell? ⟨w.heap.size, 0, none⟩ = some (.int .i64 x.y) ∧ W.cell? ⟨w.heap.size, 1, none⟩ = some (.int .i64 x.m) ∧ W.cell? ⟨w.heap.size, 2, none⟩ = some (.int .i64 x.d) ∧ W.cell? ⟨w.heap.size, 3, none⟩ = some (.int .i64 x.h) ∧ W.cell? ⟨w.heap.size, 4, none⟩ = some (.int .i64 x.mi) ∧ W.cell? ⟨w.heap.size, 5, none⟩ = some (.int .i64 x.s) :=
  ⟨h.X.cell 0, h.X.cell 1, h.X.cell 2, h.X.cell 3, h.X.cell 4, h.X.cell 5⟩
theorem DP.bs {w : World} {gA gB : Nat} {a b x : Dt} {y m : Int} {W : World} (h : DP w gA gB a b x y m W) : W.cell? ⟨gB, 0, none⟩ = some (.int .i64 b.y) ∧ W.frozen? ⟨gB, 0, none⟩ = false ∧ W.cell? ⟨gB, 1, none⟩ = some (.int .i64 b.m) ∧ W.frozen? ⟨gB, 1, none⟩ = false ∧ W.cell? ⟨gB, 2, none⟩ = some (.int .i64 b.d) ∧ W.frozen? ⟨gB, 2, none⟩ = false ∧ W.cell? ⟨gB, 3, none⟩ = some (.int .i64 b.h) ∧ W.frozen? ⟨gB, 3, none⟩ = false ∧ W.cell? ⟨gB, 4, none⟩ = some (.int .i64 b.mi) ∧ W.frozen? ⟨gB, 4, none⟩ = false ∧ W.cell? ⟨gB, 5, none⟩ = some (.int .i64 b.s) ∧ W.frozen? ⟨gB, 5, none⟩ = false :=
  ⟨h.B.cell 0, h.B.frozen 0, h.B.cell 1, h.B.frozen 1, h.B.cell 2, h.B.frozen 2, h.B.cell 3, h.B.frozen 3, h.B.cell 4, h.B.frozen 4, h.B.cell 5, h.B.frozen 5⟩
set_option maxRecDepth 100000 in
set_option maxHeartbeats 8000000 in
theorem dosParts_main (t : Int) (x : Dt) (y m : Int) (w : World) (h0 : 0 ≤ t) (h1 : t < 4294967296) (hx : Dt.In x) (y0 : -9223372036854775808 ≤ y) (y1 : y ≤ 9223372036854775807) (m0 : -9223372036854775808 ≤ m) (m1 : m ≤ 9223372036854775807) :
    Calls Try.prog 3 #[.int .u32 t, .agg (Dt.v x), .agg #[.int .i64 y, .int .i64 m]] w fun e w' => e = .returned (.bool true) ∧ Below w.heap.size w w' := by
  have h := fun W => dosSplit_any W t h0 h1
  unfold splitOr at h
  have HRS := Lib.hid (fun W => refSplit_any W t h0 h1)
  have h2 := fun W => refRight_any W (splitD t) (splitD_in t h0 h1)
  have h3 := fun W => refRight_any W x hx
  have h4 := fun W => dosRight_any W t h0 h1
  have HD := Lib.hid (fun W => days_any W y m y0 y1 m0 m1)
  have HRD := Lib.hid (fun W => refDays_any W y m y0 y1)
  generalize splitD t = b at *
  generalize daysI y m = dd at *
  by_cases hok : b.Ok
  · simp only [if_pos hok, decide_eq_true hok] at h h2 h4
    by_cases hox : x.Ok
    · simp only [decide_eq_true hox] at h3
      have hof := fun W => dosOf_any W x hx hox
      have hro := fun W => refOf_any W x hox
      generalize ofD x = ox at *
      clear hok hox
      have HSP := Lib.hid h; clear h
      have HR1 := Lib.hid h2; clear h2
      have HR2 := Lib.hid h3; clear h3
      have HR3 := Lib.hid h4; clear h4
      have HOF := Lib.hid hof; clear hof
      unfold Dt.v at HSP HRS HR1 HR2 HOF ⊢
      have HRO := Lib.hid hro; clear hro
      unfold Dt.v at HRO
      go_enter Try.func3, Try.ntmps3
      go_wp2_with fail
      refine (HSP.out _).mono ?_
      rintro e w1 ⟨rfl, hb1⟩
      have hX1 := Blk.below ((Blk.new w 24 #[Value.int IntKind.i64 x.y, Value.int IntKind.i64 x.m, Value.int IntKind.i64 x.d, Value.int IntKind.i64 x.h, Value.int IntKind.i64 x.mi, Value.int IntKind.i64 x.s]).alloc (Obj.cells #[.int .i64 y, .int .i64 m] 25)) hb1 (by simp; omega)
      have hT1 := Blk.below (Blk.new (w.alloc (Obj.cells #[Value.int IntKind.i64 x.y, Value.int IntKind.i64 x.m, Value.int IntKind.i64 x.d, Value.int IntKind.i64 x.h, Value.int IntKind.i64 x.mi, Value.int IntKind.i64 x.s] 24)) 25 #[.int .i64 y, .int .i64 m]) hb1 (by simp)
      rw [World.size_alloc] at hT1
      have hw1 := (((Below.refl w.heap.size w).alloc (Nat.le_refl _) (Obj.cells #[Value.int IntKind.i64 x.y, Value.int IntKind.i64 x.m, Value.int IntKind.i64 x.d, Value.int IntKind.i64 x.h, Value.int IntKind.i64 x.mi, Value.int IntKind.i64 x.s] 24)).alloc (by simp) (Obj.cells #[.int .i64 y, .int .i64 m] 25)).trans (hb1.mono (by simp; omega))
      clear hb1
      go_wp2_with fail
      refine (HRS.out _).mono ?_
      rintro e w2 ⟨rfl, hb2⟩
      have hA2 := Blk.below (Blk.new w1 26 #[Value.int IntKind.i64 b.y, Value.int IntKind.i64 b.m, Value.int IntKind.i64 b.d, Value.int IntKind.i64 b.h, Value.int IntKind.i64 b.mi, Value.int IntKind.i64 b.s]) hb2 (by simp)
      have hX2 := (hX1.alloc (Obj.cells #[Value.int IntKind.i64 b.y, Value.int IntKind.i64 b.m, Value.int IntKind.i64 b.d, Value.int IntKind.i64 b.h, Value.int IntKind.i64 b.mi, Value.int IntKind.i64 b.s] 26)).below hb2 (by have := hX1.lt; simp; omega)
      have hT2 := (hT1.alloc (Obj.cells #[Value.int IntKind.i64 b.y, Value.int IntKind.i64 b.m, Value.int IntKind.i64 b.d, Value.int IntKind.i64 b.h, Value.int IntKind.i64 b.mi, Value.int IntKind.i64 b.s] 26)).below hb2 (by have := hT1.lt; simp; omega)
      have hw2 := (hw1.alloc hw1.size (Obj.cells #[Value.int IntKind.i64 b.y, Value.int IntKind.i64 b.m, Value.int IntKind.i64 b.d, Value.int IntKind.i64 b.h, Value.int IntKind.i64 b.mi, Value.int IntKind.i64 b.s] 26)).trans (hb2.mono (by have := hw1.size; simp; omega))
      clear hb2
      go_wp2_with fail
      refine (HR1.out _).mono ?_
      rintro e w3 ⟨rfl, hb3⟩
      have hD3 : DP w w1.heap.size w2.heap.size b b x y m w3 := DP.keep _ _ ⟨hA2.alloc (Obj.cells #[Value.int IntKind.i64 b.y, Value.int IntKind.i64 b.m, Value.int IntKind.i64 b.d, Value.int IntKind.i64 b.h, Value.int IntKind.i64 b.mi, Value.int IntKind.i64 b.s] 24), Blk.new w2 _ _, hX2.alloc _, hT2.alloc _, hw2.alloc hw2.size _⟩ hb3
      have hne : w2.heap.size ≠ w.heap.size := by have := hX2.lt; omega
      have hne1 : w2.heap.size ≠ w1.heap.size := by have := hA2.lt; omega
      have hne2 : w2.heap.size ≠ w.heap.size + 1 := by have := hT2.lt; omega
      have hsz2 := hw2.size
      clear hb3 hA2 hX2 hT2 hw2 hX1 hT1 hw1
      generalize w1.heap.size = gA at *
      generalize w2.heap.size = gB at *
      obtain ⟨x0, x1, x2, x3, x4, x5⟩ := hD3.xs
      have hD4 := hD3
      go_wp2_with fail
      refine (HOF.out _).mono ?_
      rintro e w4 ⟨rfl, hb4⟩
      have hD5 := DP.keep _ _ hD4 hb4
      clear hb4 hD4 hD3 x0 x1 x2 x3 x4 x5
      obtain ⟨x0, x1, x2, x3, x4, x5⟩ := hD5.xs
      go_wp2_with fail
      refine (HR2.out _).mono ?_
      rintro e w5 ⟨rfl, hb5⟩
      have hD6 := DP.keep _ _ hD5 hb5
      clear hb5 hD5 x0 x1 x2 x3 x4 x5
      obtain ⟨x0, x1, x2, x3, x4, x5⟩ := hD6.xs
      go_wp2_with fail
      refine (HRO.out _).mono ?_
      rintro e w6 ⟨rfl, hb6⟩
      have hD7 := DP.keep _ _ hD6 hb6
      clear hb6 hD6 x0 x1 x2 x3 x4 x5
      have HDD := Lib.hid hD7.drew; clear hD7
      haveI : Nonempty (Held (DP w gA gB b b x y m)) := held_some HDD.out
      have qa0 : ∀ n : Held (DP w gA gB b b x y m), (HeldW n).cell? ⟨gA, 0, none⟩ = some (.int .i64 b.y) := fun n => (HeldW_spec n).A.cell 0
      have qb0 : ∀ n : Held (DP w gA gB b b x y m), (HeldW n).cell? ⟨gB, 0, none⟩ = some (.int .i64 b.y) := fun n => (HeldW_spec n).B.cell 0
      have qx0 : ∀ n : Held (DP w gA gB b b x y m), (HeldW n).cell? ⟨w.heap.size, 0, none⟩ = some (.int .i64 x.y) := fun n => (HeldW_spec n).X.cell 0
      have qa1 : ∀ n : Held (DP w gA gB b b x y m), (HeldW n).cell? ⟨gA, 1, none⟩ = some (.int .i64 b.m) := fun n => (HeldW_spec n).A.cell 1
      have qb1 : ∀ n : Held (DP w gA gB b b x y m), (HeldW n).cell? ⟨gB, 1, none⟩ = some (.int .i64 b.m) := fun n => (HeldW_spec n).B.cell 1
      have qx1 : ∀ n : Held (DP w gA gB b b x y m), (HeldW n).cell? ⟨w.heap.size, 1, none⟩ = some (.int .i64 x.m) := fun n => (HeldW_spec n).X.cell 1
      have qa2 : ∀ n : Held (DP w gA gB b b x y m), (HeldW n).cell? ⟨gA, 2, none⟩ = some (.int .i64 b.d) := fun n => (HeldW_spec n).A.cell 2
      have qb2 : ∀ n : Held (DP w gA gB b b x y m), (HeldW n).cell? ⟨gB, 2, none⟩ = some (.int .i64 b.d) := fun n => (HeldW_spec n).B.cell 2
      have qx2 : ∀ n : Held (DP w gA gB b b x y m), (HeldW n).cell? ⟨w.heap.size, 2, none⟩ = some (.int .i64 x.d) := fun n => (HeldW_spec n).X.cell 2
      have qa3 : ∀ n : Held (DP w gA gB b b x y m), (HeldW n).cell? ⟨gA, 3, none⟩ = some (.int .i64 b.h) := fun n => (HeldW_spec n).A.cell 3
      have qb3 : ∀ n : Held (DP w gA gB b b x y m), (HeldW n).cell? ⟨gB, 3, none⟩ = some (.int .i64 b.h) := fun n => (HeldW_spec n).B.cell 3
      have qx3 : ∀ n : Held (DP w gA gB b b x y m), (HeldW n).cell? ⟨w.heap.size, 3, none⟩ = some (.int .i64 x.h) := fun n => (HeldW_spec n).X.cell 3
      have qa4 : ∀ n : Held (DP w gA gB b b x y m), (HeldW n).cell? ⟨gA, 4, none⟩ = some (.int .i64 b.mi) := fun n => (HeldW_spec n).A.cell 4
      have qb4 : ∀ n : Held (DP w gA gB b b x y m), (HeldW n).cell? ⟨gB, 4, none⟩ = some (.int .i64 b.mi) := fun n => (HeldW_spec n).B.cell 4
      have qx4 : ∀ n : Held (DP w gA gB b b x y m), (HeldW n).cell? ⟨w.heap.size, 4, none⟩ = some (.int .i64 x.mi) := fun n => (HeldW_spec n).X.cell 4
      have qa5 : ∀ n : Held (DP w gA gB b b x y m), (HeldW n).cell? ⟨gA, 5, none⟩ = some (.int .i64 b.s) := fun n => (HeldW_spec n).A.cell 5
      have qb5 : ∀ n : Held (DP w gA gB b b x y m), (HeldW n).cell? ⟨gB, 5, none⟩ = some (.int .i64 b.s) := fun n => (HeldW_spec n).B.cell 5
      have qx5 : ∀ n : Held (DP w gA gB b b x y m), (HeldW n).cell? ⟨w.heap.size, 5, none⟩ = some (.int .i64 x.s) := fun n => (HeldW_spec n).X.cell 5
      have qt0 : ∀ n : Held (DP w gA gB b b x y m), (HeldW n).cell? ⟨w.heap.size + 1, 0, none⟩ = some (.int .i64 y) := fun n => (HeldW_spec n).T.cell 0
      have qt1 : ∀ n : Held (DP w gA gB b b x y m), (HeldW n).cell? ⟨w.heap.size + 1, 1, none⟩ = some (.int .i64 m) := fun n => (HeldW_spec n).T.cell 1
      go_wp2_with fail
      refine wp_region_class (DP w gA gB b b x y m) (by kernel_rfl) (by kernel_rfl) HDD.out ?_
      repeat (go_big_quiet_step (first | with_reducible exact held_below DP.keep (HR3.out _) | with_reducible exact held_below DP.keep (HR2.out _) | with_reducible exact held_below DP.keep (HD.out _) | with_reducible exact held_same (HRD.out _) | with_reducible exact held_below DP.keep (dos_lives _)))
      refine wpQuiet_nil ?_
      rintro _ ⟨n, rfl⟩
      go_wp2_with fail
      go_ret
      exact ⟨by first | (simp; done) | rfl, (HeldW_spec n).below⟩
    · simp only [decide_eq_false hox] at h3
      have hof := fun W => dosOf_bad W x hx hox
      clear hok hox
      have HSP := Lib.hid h; clear h
      have HR1 := Lib.hid h2; clear h2
      have HR2 := Lib.hid h3; clear h3
      have HR3 := Lib.hid h4; clear h4
      have HOF := Lib.hid hof; clear hof
      unfold Dt.v at HSP HRS HR1 HR2 HOF ⊢
      go_enter Try.func3, Try.ntmps3
      go_wp2_with fail
      refine (HSP.out _).mono ?_
      rintro e w1 ⟨rfl, hb1⟩
      have hX1 := Blk.below ((Blk.new w 24 #[Value.int IntKind.i64 x.y, Value.int IntKind.i64 x.m, Value.int IntKind.i64 x.d, Value.int IntKind.i64 x.h, Value.int IntKind.i64 x.mi, Value.int IntKind.i64 x.s]).alloc (Obj.cells #[.int .i64 y, .int .i64 m] 25)) hb1 (by simp; omega)
      have hT1 := Blk.below (Blk.new (w.alloc (Obj.cells #[Value.int IntKind.i64 x.y, Value.int IntKind.i64 x.m, Value.int IntKind.i64 x.d, Value.int IntKind.i64 x.h, Value.int IntKind.i64 x.mi, Value.int IntKind.i64 x.s] 24)) 25 #[.int .i64 y, .int .i64 m]) hb1 (by simp)
      rw [World.size_alloc] at hT1
      have hw1 := (((Below.refl w.heap.size w).alloc (Nat.le_refl _) (Obj.cells #[Value.int IntKind.i64 x.y, Value.int IntKind.i64 x.m, Value.int IntKind.i64 x.d, Value.int IntKind.i64 x.h, Value.int IntKind.i64 x.mi, Value.int IntKind.i64 x.s] 24)).alloc (by simp) (Obj.cells #[.int .i64 y, .int .i64 m] 25)).trans (hb1.mono (by simp; omega))
      clear hb1
      go_wp2_with fail
      refine (HRS.out _).mono ?_
      rintro e w2 ⟨rfl, hb2⟩
      have hA2 := Blk.below (Blk.new w1 26 #[Value.int IntKind.i64 b.y, Value.int IntKind.i64 b.m, Value.int IntKind.i64 b.d, Value.int IntKind.i64 b.h, Value.int IntKind.i64 b.mi, Value.int IntKind.i64 b.s]) hb2 (by simp)
      have hX2 := (hX1.alloc (Obj.cells #[Value.int IntKind.i64 b.y, Value.int IntKind.i64 b.m, Value.int IntKind.i64 b.d, Value.int IntKind.i64 b.h, Value.int IntKind.i64 b.mi, Value.int IntKind.i64 b.s] 26)).below hb2 (by have := hX1.lt; simp; omega)
      have hT2 := (hT1.alloc (Obj.cells #[Value.int IntKind.i64 b.y, Value.int IntKind.i64 b.m, Value.int IntKind.i64 b.d, Value.int IntKind.i64 b.h, Value.int IntKind.i64 b.mi, Value.int IntKind.i64 b.s] 26)).below hb2 (by have := hT1.lt; simp; omega)
      have hw2 := (hw1.alloc hw1.size (Obj.cells #[Value.int IntKind.i64 b.y, Value.int IntKind.i64 b.m, Value.int IntKind.i64 b.d, Value.int IntKind.i64 b.h, Value.int IntKind.i64 b.mi, Value.int IntKind.i64 b.s] 26)).trans (hb2.mono (by have := hw1.size; simp; omega))
      clear hb2
      go_wp2_with fail
      refine (HR1.out _).mono ?_
      rintro e w3 ⟨rfl, hb3⟩
      have hD3 : DP w w1.heap.size w2.heap.size b b x y m w3 := DP.keep _ _ ⟨hA2.alloc (Obj.cells #[Value.int IntKind.i64 b.y, Value.int IntKind.i64 b.m, Value.int IntKind.i64 b.d, Value.int IntKind.i64 b.h, Value.int IntKind.i64 b.mi, Value.int IntKind.i64 b.s] 24), Blk.new w2 _ _, hX2.alloc _, hT2.alloc _, hw2.alloc hw2.size _⟩ hb3
      have hne : w2.heap.size ≠ w.heap.size := by have := hX2.lt; omega
      have hne1 : w2.heap.size ≠ w1.heap.size := by have := hA2.lt; omega
      have hne2 : w2.heap.size ≠ w.heap.size + 1 := by have := hT2.lt; omega
      have hsz2 := hw2.size
      clear hb3 hA2 hX2 hT2 hw2 hX1 hT1 hw1
      generalize w1.heap.size = gA at *
      generalize w2.heap.size = gB at *
      obtain ⟨x0, x1, x2, x3, x4, x5⟩ := hD3.xs
      have hD4 := hD3
      go_wp2_with fail
      refine (HOF.out _).mono ?_
      rintro e w4 ⟨rfl, hb4⟩
      have hD5 := DP.keep _ _ hD4 hb4
      clear hb4 hD4 hD3 x0 x1 x2 x3 x4 x5
      obtain ⟨x0, x1, x2, x3, x4, x5⟩ := hD5.xs
      go_wp2_with fail
      refine (HR2.out _).mono ?_
      rintro e w5 ⟨rfl, hb5⟩
      have hD6 := DP.keep _ _ hD5 hb5
      clear hb5 hD5 x0 x1 x2 x3 x4 x5
      obtain ⟨x0, x1, x2, x3, x4, x5⟩ := hD6.xs
      have HDD := Lib.hid hD6.drew; clear hD6
      haveI : Nonempty (Held (DP w gA gB b b x y m)) := held_some HDD.out
      have qa0 : ∀ n : Held (DP w gA gB b b x y m), (HeldW n).cell? ⟨gA, 0, none⟩ = some (.int .i64 b.y) := fun n => (HeldW_spec n).A.cell 0
      have qb0 : ∀ n : Held (DP w gA gB b b x y m), (HeldW n).cell? ⟨gB, 0, none⟩ = some (.int .i64 b.y) := fun n => (HeldW_spec n).B.cell 0
      have qx0 : ∀ n : Held (DP w gA gB b b x y m), (HeldW n).cell? ⟨w.heap.size, 0, none⟩ = some (.int .i64 x.y) := fun n => (HeldW_spec n).X.cell 0
      have qa1 : ∀ n : Held (DP w gA gB b b x y m), (HeldW n).cell? ⟨gA, 1, none⟩ = some (.int .i64 b.m) := fun n => (HeldW_spec n).A.cell 1
      have qb1 : ∀ n : Held (DP w gA gB b b x y m), (HeldW n).cell? ⟨gB, 1, none⟩ = some (.int .i64 b.m) := fun n => (HeldW_spec n).B.cell 1
      have qx1 : ∀ n : Held (DP w gA gB b b x y m), (HeldW n).cell? ⟨w.heap.size, 1, none⟩ = some (.int .i64 x.m) := fun n => (HeldW_spec n).X.cell 1
      have qa2 : ∀ n : Held (DP w gA gB b b x y m), (HeldW n).cell? ⟨gA, 2, none⟩ = some (.int .i64 b.d) := fun n => (HeldW_spec n).A.cell 2
      have qb2 : ∀ n : Held (DP w gA gB b b x y m), (HeldW n).cell? ⟨gB, 2, none⟩ = some (.int .i64 b.d) := fun n => (HeldW_spec n).B.cell 2
      have qx2 : ∀ n : Held (DP w gA gB b b x y m), (HeldW n).cell? ⟨w.heap.size, 2, none⟩ = some (.int .i64 x.d) := fun n => (HeldW_spec n).X.cell 2
      have qa3 : ∀ n : Held (DP w gA gB b b x y m), (HeldW n).cell? ⟨gA, 3, none⟩ = some (.int .i64 b.h) := fun n => (HeldW_spec n).A.cell 3
      have qb3 : ∀ n : Held (DP w gA gB b b x y m), (HeldW n).cell? ⟨gB, 3, none⟩ = some (.int .i64 b.h) := fun n => (HeldW_spec n).B.cell 3
      have qx3 : ∀ n : Held (DP w gA gB b b x y m), (HeldW n).cell? ⟨w.heap.size, 3, none⟩ = some (.int .i64 x.h) := fun n => (HeldW_spec n).X.cell 3
      have qa4 : ∀ n : Held (DP w gA gB b b x y m), (HeldW n).cell? ⟨gA, 4, none⟩ = some (.int .i64 b.mi) := fun n => (HeldW_spec n).A.cell 4
      have qb4 : ∀ n : Held (DP w gA gB b b x y m), (HeldW n).cell? ⟨gB, 4, none⟩ = some (.int .i64 b.mi) := fun n => (HeldW_spec n).B.cell 4
      have qx4 : ∀ n : Held (DP w gA gB b b x y m), (HeldW n).cell? ⟨w.heap.size, 4, none⟩ = some (.int .i64 x.mi) := fun n => (HeldW_spec n).X.cell 4
      have qa5 : ∀ n : Held (DP w gA gB b b x y m), (HeldW n).cell? ⟨gA, 5, none⟩ = some (.int .i64 b.s) := fun n => (HeldW_spec n).A.cell 5
      have qb5 : ∀ n : Held (DP w gA gB b b x y m), (HeldW n).cell? ⟨gB, 5, none⟩ = some (.int .i64 b.s) := fun n => (HeldW_spec n).B.cell 5
      have qx5 : ∀ n : Held (DP w gA gB b b x y m), (HeldW n).cell? ⟨w.heap.size, 5, none⟩ = some (.int .i64 x.s) := fun n => (HeldW_spec n).X.cell 5
      have qt0 : ∀ n : Held (DP w gA gB b b x y m), (HeldW n).cell? ⟨w.heap.size + 1, 0, none⟩ = some (.int .i64 y) := fun n => (HeldW_spec n).T.cell 0
      have qt1 : ∀ n : Held (DP w gA gB b b x y m), (HeldW n).cell? ⟨w.heap.size + 1, 1, none⟩ = some (.int .i64 m) := fun n => (HeldW_spec n).T.cell 1
      go_wp2_with fail
      refine wp_region_class (DP w gA gB b b x y m) (by kernel_rfl) (by kernel_rfl) HDD.out ?_
      repeat (go_big_quiet_step (first | with_reducible exact held_below DP.keep (HR3.out _) | with_reducible exact held_below DP.keep (HR2.out _) | with_reducible exact held_below DP.keep (HD.out _) | with_reducible exact held_same (HRD.out _) | with_reducible exact held_below DP.keep (dos_lives _)))
      refine wpQuiet_nil ?_
      rintro _ ⟨n, rfl⟩
      go_wp2_with fail
      go_ret
      exact ⟨by first | (simp; done) | rfl, (HeldW_spec n).below⟩
  · simp only [if_neg hok, decide_eq_false hok] at h h2 h4
    by_cases hox : x.Ok
    · simp only [decide_eq_true hox] at h3
      have hof := fun W => dosOf_any W x hx hox
      have hro := fun W => refOf_any W x hox
      generalize ofD x = ox at *
      clear hok hox
      have HSP := Lib.hid h; clear h
      have HR1 := Lib.hid h2; clear h2
      have HR2 := Lib.hid h3; clear h3
      have HR3 := Lib.hid h4; clear h4
      have HOF := Lib.hid hof; clear hof
      unfold Dt.v at HSP HRS HR1 HR2 HOF ⊢
      have HRO := Lib.hid hro; clear hro
      unfold Dt.v at HRO
      unfold zeroD at HSP
      go_enter Try.func3, Try.ntmps3
      go_wp2_with fail
      refine (HSP.out _).mono ?_
      rintro e w1 ⟨rfl, hb1⟩
      have hX1 := Blk.below ((Blk.new w 24 #[Value.int IntKind.i64 x.y, Value.int IntKind.i64 x.m, Value.int IntKind.i64 x.d, Value.int IntKind.i64 x.h, Value.int IntKind.i64 x.mi, Value.int IntKind.i64 x.s]).alloc (Obj.cells #[.int .i64 y, .int .i64 m] 25)) hb1 (by simp; omega)
      have hT1 := Blk.below (Blk.new (w.alloc (Obj.cells #[Value.int IntKind.i64 x.y, Value.int IntKind.i64 x.m, Value.int IntKind.i64 x.d, Value.int IntKind.i64 x.h, Value.int IntKind.i64 x.mi, Value.int IntKind.i64 x.s] 24)) 25 #[.int .i64 y, .int .i64 m]) hb1 (by simp)
      rw [World.size_alloc] at hT1
      have hw1 := (((Below.refl w.heap.size w).alloc (Nat.le_refl _) (Obj.cells #[Value.int IntKind.i64 x.y, Value.int IntKind.i64 x.m, Value.int IntKind.i64 x.d, Value.int IntKind.i64 x.h, Value.int IntKind.i64 x.mi, Value.int IntKind.i64 x.s] 24)).alloc (by simp) (Obj.cells #[.int .i64 y, .int .i64 m] 25)).trans (hb1.mono (by simp; omega))
      clear hb1
      go_wp2_with fail
      refine (HRS.out _).mono ?_
      rintro e w2 ⟨rfl, hb2⟩
      have hA2 := Blk.below (Blk.new w1 26 #[Value.int IntKind.i64 0, Value.int IntKind.i64 0, Value.int IntKind.i64 0, Value.int IntKind.i64 0, Value.int IntKind.i64 0, Value.int IntKind.i64 0]) hb2 (by simp)
      have hX2 := (hX1.alloc (Obj.cells #[Value.int IntKind.i64 0, Value.int IntKind.i64 0, Value.int IntKind.i64 0, Value.int IntKind.i64 0, Value.int IntKind.i64 0, Value.int IntKind.i64 0] 26)).below hb2 (by have := hX1.lt; simp; omega)
      have hT2 := (hT1.alloc (Obj.cells #[Value.int IntKind.i64 0, Value.int IntKind.i64 0, Value.int IntKind.i64 0, Value.int IntKind.i64 0, Value.int IntKind.i64 0, Value.int IntKind.i64 0] 26)).below hb2 (by have := hT1.lt; simp; omega)
      have hw2 := (hw1.alloc hw1.size (Obj.cells #[Value.int IntKind.i64 0, Value.int IntKind.i64 0, Value.int IntKind.i64 0, Value.int IntKind.i64 0, Value.int IntKind.i64 0, Value.int IntKind.i64 0] 26)).trans (hb2.mono (by have := hw1.size; simp; omega))
      clear hb2
      go_wp2_with fail
      refine (HR1.out _).mono ?_
      rintro e w3 ⟨rfl, hb3⟩
      have hD3 : DP w w1.heap.size w2.heap.size zeroD b x y m w3 := DP.keep _ _ ⟨hA2.alloc (Obj.cells #[Value.int IntKind.i64 b.y, Value.int IntKind.i64 b.m, Value.int IntKind.i64 b.d, Value.int IntKind.i64 b.h, Value.int IntKind.i64 b.mi, Value.int IntKind.i64 b.s] 24), Blk.new w2 _ _, hX2.alloc _, hT2.alloc _, hw2.alloc hw2.size _⟩ hb3
      have hne : w2.heap.size ≠ w.heap.size := by have := hX2.lt; omega
      have hne1 : w2.heap.size ≠ w1.heap.size := by have := hA2.lt; omega
      have hne2 : w2.heap.size ≠ w.heap.size + 1 := by have := hT2.lt; omega
      have hsz2 := hw2.size
      clear hb3 hA2 hX2 hT2 hw2 hX1 hT1 hw1
      generalize w1.heap.size = gA at *
      generalize w2.heap.size = gB at *
      obtain ⟨x0, x1, x2, x3, x4, x5⟩ := hD3.xs
      obtain ⟨b0, f0, b1, f1, b2, f2, b3, f3, b4, f4, b5, f5⟩ := hD3.bs
      have hne' : ¬ gB = w.heap.size := hne
      have hne'' : ¬ w.heap.size = gB := fun e => hne e.symm
      have hneX : w.heap.size ≠ gB := fun e => hne e.symm
      have hneA : gA ≠ gB := fun e => hne1 e.symm
      have hneT : w.heap.size + 1 ≠ gB := fun e => hne2 e.symm
      have hD4 : DP w gA gB zeroD zeroD x y m ((((((w3.setCell ⟨gB, 0, none⟩ (Value.int IntKind.i64 0)).setCell ⟨gB, 1, none⟩ (Value.int IntKind.i64 0)).setCell ⟨gB, 2, none⟩ (Value.int IntKind.i64 0)).setCell ⟨gB, 3, none⟩ (Value.int IntKind.i64 0)).setCell ⟨gB, 4, none⟩ (Value.int IntKind.i64 0)).setCell ⟨gB, 5, none⟩ (Value.int IntKind.i64 0)) :=
        ⟨((((((hD3.A).far hneA _).far hneA _).far hneA _).far hneA _).far hneA _).far hneA _, ((((((hD3.B).put 0 (Value.int IntKind.i64 0)).put 1 (Value.int IntKind.i64 0)).put 2 (Value.int IntKind.i64 0)).put 3 (Value.int IntKind.i64 0)).put 4 (Value.int IntKind.i64 0)).put 5 (Value.int IntKind.i64 0), ((((((hD3.X).far hneX _).far hneX _).far hneX _).far hneX _).far hneX _).far hneX _, ((((((hD3.T).far hneT _).far hneT _).far hneT _).far hneT _).far hneT _).far hneT _, ((((((hD3.below).setCell hsz2 _).setCell hsz2 _).setCell hsz2 _).setCell hsz2 _).setCell hsz2 _).setCell hsz2 _⟩
      clear hneX hneA hneT
      go_wp2_with fail
      refine (HOF.out _).mono ?_
      rintro e w4 ⟨rfl, hb4⟩
      have hD5 := DP.keep _ _ hD4 hb4
      clear hb4 hD4 hD3 x0 x1 x2 x3 x4 x5 b0 f0 b1 f1 b2 f2 b3 f3 b4 f4 b5 f5
      obtain ⟨x0, x1, x2, x3, x4, x5⟩ := hD5.xs
      go_wp2_with fail
      refine (HR2.out _).mono ?_
      rintro e w5 ⟨rfl, hb5⟩
      have hD6 := DP.keep _ _ hD5 hb5
      clear hb5 hD5 x0 x1 x2 x3 x4 x5
      obtain ⟨x0, x1, x2, x3, x4, x5⟩ := hD6.xs
      go_wp2_with fail
      refine (HRO.out _).mono ?_
      rintro e w6 ⟨rfl, hb6⟩
      have hD7 := DP.keep _ _ hD6 hb6
      clear hb6 hD6 x0 x1 x2 x3 x4 x5
      have HDD := Lib.hid hD7.drew; clear hD7
      haveI : Nonempty (Held (DP w gA gB zeroD zeroD x y m)) := held_some HDD.out
      have qa0 : ∀ n : Held (DP w gA gB zeroD zeroD x y m), (HeldW n).cell? ⟨gA, 0, none⟩ = some (.int .i64 0) := fun n => (HeldW_spec n).A.cell 0
      have qb0 : ∀ n : Held (DP w gA gB zeroD zeroD x y m), (HeldW n).cell? ⟨gB, 0, none⟩ = some (.int .i64 0) := fun n => (HeldW_spec n).B.cell 0
      have qx0 : ∀ n : Held (DP w gA gB zeroD zeroD x y m), (HeldW n).cell? ⟨w.heap.size, 0, none⟩ = some (.int .i64 x.y) := fun n => (HeldW_spec n).X.cell 0
      have qa1 : ∀ n : Held (DP w gA gB zeroD zeroD x y m), (HeldW n).cell? ⟨gA, 1, none⟩ = some (.int .i64 0) := fun n => (HeldW_spec n).A.cell 1
      have qb1 : ∀ n : Held (DP w gA gB zeroD zeroD x y m), (HeldW n).cell? ⟨gB, 1, none⟩ = some (.int .i64 0) := fun n => (HeldW_spec n).B.cell 1
      have qx1 : ∀ n : Held (DP w gA gB zeroD zeroD x y m), (HeldW n).cell? ⟨w.heap.size, 1, none⟩ = some (.int .i64 x.m) := fun n => (HeldW_spec n).X.cell 1
      have qa2 : ∀ n : Held (DP w gA gB zeroD zeroD x y m), (HeldW n).cell? ⟨gA, 2, none⟩ = some (.int .i64 0) := fun n => (HeldW_spec n).A.cell 2
      have qb2 : ∀ n : Held (DP w gA gB zeroD zeroD x y m), (HeldW n).cell? ⟨gB, 2, none⟩ = some (.int .i64 0) := fun n => (HeldW_spec n).B.cell 2
      have qx2 : ∀ n : Held (DP w gA gB zeroD zeroD x y m), (HeldW n).cell? ⟨w.heap.size, 2, none⟩ = some (.int .i64 x.d) := fun n => (HeldW_spec n).X.cell 2
      have qa3 : ∀ n : Held (DP w gA gB zeroD zeroD x y m), (HeldW n).cell? ⟨gA, 3, none⟩ = some (.int .i64 0) := fun n => (HeldW_spec n).A.cell 3
      have qb3 : ∀ n : Held (DP w gA gB zeroD zeroD x y m), (HeldW n).cell? ⟨gB, 3, none⟩ = some (.int .i64 0) := fun n => (HeldW_spec n).B.cell 3
      have qx3 : ∀ n : Held (DP w gA gB zeroD zeroD x y m), (HeldW n).cell? ⟨w.heap.size, 3, none⟩ = some (.int .i64 x.h) := fun n => (HeldW_spec n).X.cell 3
      have qa4 : ∀ n : Held (DP w gA gB zeroD zeroD x y m), (HeldW n).cell? ⟨gA, 4, none⟩ = some (.int .i64 0) := fun n => (HeldW_spec n).A.cell 4
      have qb4 : ∀ n : Held (DP w gA gB zeroD zeroD x y m), (HeldW n).cell? ⟨gB, 4, none⟩ = some (.int .i64 0) := fun n => (HeldW_spec n).B.cell 4
      have qx4 : ∀ n : Held (DP w gA gB zeroD zeroD x y m), (HeldW n).cell? ⟨w.heap.size, 4, none⟩ = some (.int .i64 x.mi) := fun n => (HeldW_spec n).X.cell 4
      have qa5 : ∀ n : Held (DP w gA gB zeroD zeroD x y m), (HeldW n).cell? ⟨gA, 5, none⟩ = some (.int .i64 0) := fun n => (HeldW_spec n).A.cell 5
      have qb5 : ∀ n : Held (DP w gA gB zeroD zeroD x y m), (HeldW n).cell? ⟨gB, 5, none⟩ = some (.int .i64 0) := fun n => (HeldW_spec n).B.cell 5
      have qx5 : ∀ n : Held (DP w gA gB zeroD zeroD x y m), (HeldW n).cell? ⟨w.heap.size, 5, none⟩ = some (.int .i64 x.s) := fun n => (HeldW_spec n).X.cell 5
      have qt0 : ∀ n : Held (DP w gA gB zeroD zeroD x y m), (HeldW n).cell? ⟨w.heap.size + 1, 0, none⟩ = some (.int .i64 y) := fun n => (HeldW_spec n).T.cell 0
      have qt1 : ∀ n : Held (DP w gA gB zeroD zeroD x y m), (HeldW n).cell? ⟨w.heap.size + 1, 1, none⟩ = some (.int .i64 m) := fun n => (HeldW_spec n).T.cell 1
      go_wp2_with fail
      refine wp_region_class (DP w gA gB zeroD zeroD x y m) (by kernel_rfl) (by kernel_rfl) HDD.out ?_
      repeat (go_big_quiet_step (first | with_reducible exact held_below DP.keep (HR3.out _) | with_reducible exact held_below DP.keep (HR2.out _) | with_reducible exact held_below DP.keep (HD.out _) | with_reducible exact held_same (HRD.out _) | with_reducible exact held_below DP.keep (dos_lives _)))
      refine wpQuiet_nil ?_
      rintro _ ⟨n, rfl⟩
      go_wp2_with fail
      go_ret
      exact ⟨by first | (simp; done) | rfl, (HeldW_spec n).below⟩
    · simp only [decide_eq_false hox] at h3
      have hof := fun W => dosOf_bad W x hx hox
      clear hok hox
      have HSP := Lib.hid h; clear h
      have HR1 := Lib.hid h2; clear h2
      have HR2 := Lib.hid h3; clear h3
      have HR3 := Lib.hid h4; clear h4
      have HOF := Lib.hid hof; clear hof
      unfold Dt.v at HSP HRS HR1 HR2 HOF ⊢
      unfold zeroD at HSP
      go_enter Try.func3, Try.ntmps3
      go_wp2_with fail
      refine (HSP.out _).mono ?_
      rintro e w1 ⟨rfl, hb1⟩
      have hX1 := Blk.below ((Blk.new w 24 #[Value.int IntKind.i64 x.y, Value.int IntKind.i64 x.m, Value.int IntKind.i64 x.d, Value.int IntKind.i64 x.h, Value.int IntKind.i64 x.mi, Value.int IntKind.i64 x.s]).alloc (Obj.cells #[.int .i64 y, .int .i64 m] 25)) hb1 (by simp; omega)
      have hT1 := Blk.below (Blk.new (w.alloc (Obj.cells #[Value.int IntKind.i64 x.y, Value.int IntKind.i64 x.m, Value.int IntKind.i64 x.d, Value.int IntKind.i64 x.h, Value.int IntKind.i64 x.mi, Value.int IntKind.i64 x.s] 24)) 25 #[.int .i64 y, .int .i64 m]) hb1 (by simp)
      rw [World.size_alloc] at hT1
      have hw1 := (((Below.refl w.heap.size w).alloc (Nat.le_refl _) (Obj.cells #[Value.int IntKind.i64 x.y, Value.int IntKind.i64 x.m, Value.int IntKind.i64 x.d, Value.int IntKind.i64 x.h, Value.int IntKind.i64 x.mi, Value.int IntKind.i64 x.s] 24)).alloc (by simp) (Obj.cells #[.int .i64 y, .int .i64 m] 25)).trans (hb1.mono (by simp; omega))
      clear hb1
      go_wp2_with fail
      refine (HRS.out _).mono ?_
      rintro e w2 ⟨rfl, hb2⟩
      have hA2 := Blk.below (Blk.new w1 26 #[Value.int IntKind.i64 0, Value.int IntKind.i64 0, Value.int IntKind.i64 0, Value.int IntKind.i64 0, Value.int IntKind.i64 0, Value.int IntKind.i64 0]) hb2 (by simp)
      have hX2 := (hX1.alloc (Obj.cells #[Value.int IntKind.i64 0, Value.int IntKind.i64 0, Value.int IntKind.i64 0, Value.int IntKind.i64 0, Value.int IntKind.i64 0, Value.int IntKind.i64 0] 26)).below hb2 (by have := hX1.lt; simp; omega)
      have hT2 := (hT1.alloc (Obj.cells #[Value.int IntKind.i64 0, Value.int IntKind.i64 0, Value.int IntKind.i64 0, Value.int IntKind.i64 0, Value.int IntKind.i64 0, Value.int IntKind.i64 0] 26)).below hb2 (by have := hT1.lt; simp; omega)
      have hw2 := (hw1.alloc hw1.size (Obj.cells #[Value.int IntKind.i64 0, Value.int IntKind.i64 0, Value.int IntKind.i64 0, Value.int IntKind.i64 0, Value.int IntKind.i64 0, Value.int IntKind.i64 0] 26)).trans (hb2.mono (by have := hw1.size; simp; omega))
      clear hb2
      go_wp2_with fail
      refine (HR1.out _).mono ?_
      rintro e w3 ⟨rfl, hb3⟩
      have hD3 : DP w w1.heap.size w2.heap.size zeroD b x y m w3 := DP.keep _ _ ⟨hA2.alloc (Obj.cells #[Value.int IntKind.i64 b.y, Value.int IntKind.i64 b.m, Value.int IntKind.i64 b.d, Value.int IntKind.i64 b.h, Value.int IntKind.i64 b.mi, Value.int IntKind.i64 b.s] 24), Blk.new w2 _ _, hX2.alloc _, hT2.alloc _, hw2.alloc hw2.size _⟩ hb3
      have hne : w2.heap.size ≠ w.heap.size := by have := hX2.lt; omega
      have hne1 : w2.heap.size ≠ w1.heap.size := by have := hA2.lt; omega
      have hne2 : w2.heap.size ≠ w.heap.size + 1 := by have := hT2.lt; omega
      have hsz2 := hw2.size
      clear hb3 hA2 hX2 hT2 hw2 hX1 hT1 hw1
      generalize w1.heap.size = gA at *
      generalize w2.heap.size = gB at *
      obtain ⟨x0, x1, x2, x3, x4, x5⟩ := hD3.xs
      obtain ⟨b0, f0, b1, f1, b2, f2, b3, f3, b4, f4, b5, f5⟩ := hD3.bs
      have hne' : ¬ gB = w.heap.size := hne
      have hne'' : ¬ w.heap.size = gB := fun e => hne e.symm
      have hneX : w.heap.size ≠ gB := fun e => hne e.symm
      have hneA : gA ≠ gB := fun e => hne1 e.symm
      have hneT : w.heap.size + 1 ≠ gB := fun e => hne2 e.symm
      have hD4 : DP w gA gB zeroD zeroD x y m ((((((w3.setCell ⟨gB, 0, none⟩ (Value.int IntKind.i64 0)).setCell ⟨gB, 1, none⟩ (Value.int IntKind.i64 0)).setCell ⟨gB, 2, none⟩ (Value.int IntKind.i64 0)).setCell ⟨gB, 3, none⟩ (Value.int IntKind.i64 0)).setCell ⟨gB, 4, none⟩ (Value.int IntKind.i64 0)).setCell ⟨gB, 5, none⟩ (Value.int IntKind.i64 0)) :=
        ⟨((((((hD3.A).far hneA _).far hneA _).far hneA _).far hneA _).far hneA _).far hneA _, ((((((hD3.B).put 0 (Value.int IntKind.i64 0)).put 1 (Value.int IntKind.i64 0)).put 2 (Value.int IntKind.i64 0)).put 3 (Value.int IntKind.i64 0)).put 4 (Value.int IntKind.i64 0)).put 5 (Value.int IntKind.i64 0), ((((((hD3.X).far hneX _).far hneX _).far hneX _).far hneX _).far hneX _).far hneX _, ((((((hD3.T).far hneT _).far hneT _).far hneT _).far hneT _).far hneT _).far hneT _, ((((((hD3.below).setCell hsz2 _).setCell hsz2 _).setCell hsz2 _).setCell hsz2 _).setCell hsz2 _).setCell hsz2 _⟩
      clear hneX hneA hneT
      go_wp2_with fail
      refine (HOF.out _).mono ?_
      rintro e w4 ⟨rfl, hb4⟩
      have hD5 := DP.keep _ _ hD4 hb4
      clear hb4 hD4 hD3 x0 x1 x2 x3 x4 x5 b0 f0 b1 f1 b2 f2 b3 f3 b4 f4 b5 f5
      obtain ⟨x0, x1, x2, x3, x4, x5⟩ := hD5.xs
      go_wp2_with fail
      refine (HR2.out _).mono ?_
      rintro e w5 ⟨rfl, hb5⟩
      have hD6 := DP.keep _ _ hD5 hb5
      clear hb5 hD5 x0 x1 x2 x3 x4 x5
      obtain ⟨x0, x1, x2, x3, x4, x5⟩ := hD6.xs
      have HDD := Lib.hid hD6.drew; clear hD6
      haveI : Nonempty (Held (DP w gA gB zeroD zeroD x y m)) := held_some HDD.out
      have qa0 : ∀ n : Held (DP w gA gB zeroD zeroD x y m), (HeldW n).cell? ⟨gA, 0, none⟩ = some (.int .i64 0) := fun n => (HeldW_spec n).A.cell 0
      have qb0 : ∀ n : Held (DP w gA gB zeroD zeroD x y m), (HeldW n).cell? ⟨gB, 0, none⟩ = some (.int .i64 0) := fun n => (HeldW_spec n).B.cell 0
      have qx0 : ∀ n : Held (DP w gA gB zeroD zeroD x y m), (HeldW n).cell? ⟨w.heap.size, 0, none⟩ = some (.int .i64 x.y) := fun n => (HeldW_spec n).X.cell 0
      have qa1 : ∀ n : Held (DP w gA gB zeroD zeroD x y m), (HeldW n).cell? ⟨gA, 1, none⟩ = some (.int .i64 0) := fun n => (HeldW_spec n).A.cell 1
      have qb1 : ∀ n : Held (DP w gA gB zeroD zeroD x y m), (HeldW n).cell? ⟨gB, 1, none⟩ = some (.int .i64 0) := fun n => (HeldW_spec n).B.cell 1
      have qx1 : ∀ n : Held (DP w gA gB zeroD zeroD x y m), (HeldW n).cell? ⟨w.heap.size, 1, none⟩ = some (.int .i64 x.m) := fun n => (HeldW_spec n).X.cell 1
      have qa2 : ∀ n : Held (DP w gA gB zeroD zeroD x y m), (HeldW n).cell? ⟨gA, 2, none⟩ = some (.int .i64 0) := fun n => (HeldW_spec n).A.cell 2
      have qb2 : ∀ n : Held (DP w gA gB zeroD zeroD x y m), (HeldW n).cell? ⟨gB, 2, none⟩ = some (.int .i64 0) := fun n => (HeldW_spec n).B.cell 2
      have qx2 : ∀ n : Held (DP w gA gB zeroD zeroD x y m), (HeldW n).cell? ⟨w.heap.size, 2, none⟩ = some (.int .i64 x.d) := fun n => (HeldW_spec n).X.cell 2
      have qa3 : ∀ n : Held (DP w gA gB zeroD zeroD x y m), (HeldW n).cell? ⟨gA, 3, none⟩ = some (.int .i64 0) := fun n => (HeldW_spec n).A.cell 3
      have qb3 : ∀ n : Held (DP w gA gB zeroD zeroD x y m), (HeldW n).cell? ⟨gB, 3, none⟩ = some (.int .i64 0) := fun n => (HeldW_spec n).B.cell 3
      have qx3 : ∀ n : Held (DP w gA gB zeroD zeroD x y m), (HeldW n).cell? ⟨w.heap.size, 3, none⟩ = some (.int .i64 x.h) := fun n => (HeldW_spec n).X.cell 3
      have qa4 : ∀ n : Held (DP w gA gB zeroD zeroD x y m), (HeldW n).cell? ⟨gA, 4, none⟩ = some (.int .i64 0) := fun n => (HeldW_spec n).A.cell 4
      have qb4 : ∀ n : Held (DP w gA gB zeroD zeroD x y m), (HeldW n).cell? ⟨gB, 4, none⟩ = some (.int .i64 0) := fun n => (HeldW_spec n).B.cell 4
      have qx4 : ∀ n : Held (DP w gA gB zeroD zeroD x y m), (HeldW n).cell? ⟨w.heap.size, 4, none⟩ = some (.int .i64 x.mi) := fun n => (HeldW_spec n).X.cell 4
      have qa5 : ∀ n : Held (DP w gA gB zeroD zeroD x y m), (HeldW n).cell? ⟨gA, 5, none⟩ = some (.int .i64 0) := fun n => (HeldW_spec n).A.cell 5
      have qb5 : ∀ n : Held (DP w gA gB zeroD zeroD x y m), (HeldW n).cell? ⟨gB, 5, none⟩ = some (.int .i64 0) := fun n => (HeldW_spec n).B.cell 5
      have qx5 : ∀ n : Held (DP w gA gB zeroD zeroD x y m), (HeldW n).cell? ⟨w.heap.size, 5, none⟩ = some (.int .i64 x.s) := fun n => (HeldW_spec n).X.cell 5
      have qt0 : ∀ n : Held (DP w gA gB zeroD zeroD x y m), (HeldW n).cell? ⟨w.heap.size + 1, 0, none⟩ = some (.int .i64 y) := fun n => (HeldW_spec n).T.cell 0
      have qt1 : ∀ n : Held (DP w gA gB zeroD zeroD x y m), (HeldW n).cell? ⟨w.heap.size + 1, 1, none⟩ = some (.int .i64 m) := fun n => (HeldW_spec n).T.cell 1
      go_wp2_with fail
      refine wp_region_class (DP w gA gB zeroD zeroD x y m) (by kernel_rfl) (by kernel_rfl) HDD.out ?_
      repeat (go_big_quiet_step (first | with_reducible exact held_below DP.keep (HR3.out _) | with_reducible exact held_below DP.keep (HR2.out _) | with_reducible exact held_below DP.keep (HD.out _) | with_reducible exact held_same (HRD.out _) | with_reducible exact held_below DP.keep (dos_lives _)))
      refine wpQuiet_nil ?_
      rintro _ ⟨n, rfl⟩
      go_wp2_with fail
      go_ret
      exact ⟨by first | (simp; done) | rfl, (HeldW_spec n).below⟩
set_option maxRecDepth 100000 in
theorem dec_int {H : Type} {enc : TypeId × Value → H} {w : World} (fuel : Nat) (c : Value) (x : DataW H × List MemPlace) (h : DataW.trod enc Try.prog w 0 (fun _ => true) true fuel 3 [c] = some x) :
    ∃ k : Int, c = .int .i64 k ∧ (-9223372036854775808 ≤ k ∧ k ≤ 9223372036854775807) := by
  obtain ⟨k, ek, _, wk⟩ := DataW.trod_int Try.underlying3 h
  obtain ⟨k0, k1⟩ := bounds_i64 wk
  exact ⟨k, by simpa using ek, by omega, by omega⟩
set_option maxRecDepth 100000 in
theorem open_time {H : Type} {enc : TypeId × Value → H} {w : World} {r : Reach} {b0 : Nat} {v : Value} {d : DataW H} {p : List MemPlace} (hv : Value.okWide Try.prog w r b0 24 v) (h : DataW.Trod enc Try.prog w 0 (fun _ => true) true 24 v d p) :
    ∃ x : Dt, v = .agg (Dt.v x) ∧ Dt.In x := by
  obtain ⟨cs, rfl, hsz⟩ := okWide_struct Try.underlying24 hv
  obtain ⟨fuel, hf⟩ := h
  obtain ⟨hl, hff⟩ := dec_fields Try.underlying24 (by kernel_rfl) (by kernel_rfl) hf
  obtain ⟨cs⟩ := cs
  match cs, hl with
  | [c0, c1, c2, c3, c4, c5], _ =>
    obtain ⟨v0, n0, y0, e0, h0⟩ := hff 0 _ rfl
    obtain ⟨v1, n1, y1, e1, h1⟩ := hff 1 _ rfl
    obtain ⟨v2, n2, y2, e2, h2⟩ := hff 2 _ rfl
    obtain ⟨v3, n3, y3, e3, h3⟩ := hff 3 _ rfl
    obtain ⟨v4, n4, y4, e4, h4⟩ := hff 4 _ rfl
    obtain ⟨v5, n5, y5, e5, h5⟩ := hff 5 _ rfl
    simp [Value.cells] at e0 e1 e2 e3 e4 e5
    subst e0 e1 e2 e3 e4 e5
    obtain ⟨k0, ek0, a0, b0⟩ := dec_int _ _ _ h0
    obtain ⟨k1, ek1, a1, b1⟩ := dec_int _ _ _ h1
    obtain ⟨k2, ek2, a2, b2⟩ := dec_int _ _ _ h2
    obtain ⟨k3, ek3, a3, b3⟩ := dec_int _ _ _ h3
    obtain ⟨k4, ek4, a4, b4⟩ := dec_int _ _ _ h4
    obtain ⟨k5, ek5, a5, b5⟩ := dec_int _ _ _ h5
    subst ek0 ek1 ek2 ek3 ek4 ek5
    exact ⟨⟨k0, k1, k2, k3, k4, k5⟩, rfl, ⟨a0, b0, a1, b1, a2, b2, a3, b3, a4, b4, a5, b5⟩⟩
set_option maxRecDepth 100000 in
theorem dosParts_walk : Walks 3 Try.f3 := by
  intro H enc W base args ds ps hval hA hlt hsz
  rw [Try.params3] at hA hval
  obtain ⟨v0, v1, v2, d0, d1, d2, p0, p1, p2, rfl, rfl, rfl, h0, h1, h2⟩ := trodAll_three hA
  obtain ⟨t, rfl, rfl, rfl, wt⟩ := open_int Try.underlying22 (hval 0 22 v0 rfl rfl) h0
  obtain ⟨t0, t1⟩ := bounds_u32 wt
  obtain ⟨x, rfl, hx⟩ := open_time (hval 1 24 v1 rfl rfl) h1
  obtain ⟨l, rfl, hl, hv⟩ := open_array_dec (n := 2) (Value.int .i64) (fun k => -9223372036854775808 ≤ k ∧ k ≤ 9223372036854775807) Try.underlying25 (by kernel_rfl) (by kernel_rfl) dec_int (hval 2 25 v2 rfl rfl) h2
  obtain ⟨y, m, rfl⟩ : ∃ y m, l = [y, m] := by
    match l, hl with
    | [y, m], _ => exact ⟨y, m, rfl⟩
  exact dosParts_main t x y m W (by omega) (by omega) hx (hv y (by simp)).1 (hv y (by simp)).2 (hv m (by simp)).1 (hv m (by simp)).2
end Go.Proofs.Ythmlfeaoaanmoaa
