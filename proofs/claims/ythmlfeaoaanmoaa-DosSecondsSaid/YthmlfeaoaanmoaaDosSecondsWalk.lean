/- The walk of DosSeconds. -/
import Derived.Test.YthmlfeaoaanmoaaLift
import Derived.Test.YthmlfeaoaanmoaaDosFrom
import Derived.Test.YthmlfeaoaanmoaaDosText
set_option linter.unusedVariables false
namespace Go.Proofs.Ythmlfeaoaanmoaa
open Go.ChangeShapes Go.WideShapes Go.ChangeAt Go.RowKit
open Sw
theorem cells_of {W : World} {g : Nat} {x : Dt} (h : Blk W g 24 (Dt.v x)) : W.cell? ⟨g, 0, none⟩ = some (.int .i64 x.y) ∧ W.cell? ⟨g, 1, none⟩ = some (.int .i64 x.m) ∧ W.cell? ⟨g, 2, none⟩ = some (.int .i64 x.d) ∧ W.cell? ⟨g, 3, none⟩ = some (.int .i64 x.h) ∧ W.cell? ⟨g, 4, none⟩ = some (.int .i64 x.mi) ∧ W.cell? ⟨g, 5, none⟩ = some (.int .i64 x.s) :=
  ⟨h.cell 0, h.cell 1, h.cell 2, h.cell 3, h.cell 4, h.cell 5⟩
theorem from_no (w : World) (n : Int) (h0 : -9223372036854775808 ≤ n) (h1 : n ≤ 9223372036854775807) (h : n < 0 ∨ 4039286400 ≤ n) :
    Calls Try.prog 29 #[.int .i64 n] w fun e w' => e = .returned (.tuple #[.int .u32 0, .bool false]) ∧ Below w.heap.size w w' := by
  by_cases hn : n < 0
  · exact (from_neg w n h0 hn).mono fun e w' hr => ⟨hr.1, by rw [← hr.2]; exact Below.refl _ _⟩
  · exact (from_any w n (by omega) h1).mono fun e w' hr => by
      obtain ⟨h2 | h2, hb⟩ := hr
      · obtain ⟨x, _, _, h3, _⟩ := h2
        omega
      · exact ⟨h2.2, hb⟩
theorem in_of_ok {x : Dt} (h : x.Ok) : Dt.In x := by
  have hy := h.year
  unfold Dt.Ok at h
  constructor <;> omega
def lastD : Dt := ⟨2107, 12, 31, 23, 59, 58⟩
theorem last_secs : secsD lastD = 4039286398 := by decide +kernel
theorem last_ok : lastD.Ok := by decide +kernel
set_option maxRecDepth 100000 in
set_option maxHeartbeats 8000000 in
theorem dosSeconds_main (t n : Int) (w : World) (h0 : 0 ≤ t) (h1 : t < 4294967296) (n0 : -9223372036854775808 ≤ n) (n1 : n ≤ 9223372036854775807) :
    Calls Try.prog 5 #[.int .u32 t, .int .i64 n] w fun e w' => e = .returned (.bool true) ∧ Below w.heap.size w w' := by
  have HSP := Lib.hid (fun W => refSplit_any W t h0 h1)
  have h2 := fun W => refRight_any W (splitD t) (splitD_in t h0 h1)
  have hse := fun W => seconds_any W t h0 h1
  have hla := fun W => refSeconds_any W lastD last_ok
  rw [last_secs] at hla
  have HLA := Lib.hid hla; clear hla
  unfold lastD at HLA
  generalize splitD t = x at *
  by_cases hok : x.Ok
  · simp only [if_pos hok, decide_eq_true hok] at h2 hse
    have hrs := fun W => refSeconds_any W x hok
    clear hok
    generalize secsD x = sx at *
    by_cases hn : n < 0
    · have HF := Lib.hid (fun W => from_no W n n0 n1 (.inl hn))
      have HR := Lib.hid h2; clear h2
      have HSE := Lib.hid hse; clear hse
      unfold Dt.v at HSP HR HLA
      have HRS := Lib.hid hrs; clear hrs
      unfold Dt.v at HRS
      go_enter Try.func5, Try.ntmps5
      go_wp2_with fail
      refine (HSE.out _).mono ?_
      rintro e w0 ⟨rfl, hb0⟩
      go_wp2_with fail
      refine (HSP.out _).mono ?_
      rintro e w1 ⟨rfl, hb1⟩
      have hw1 := hb0.trans (hb1.mono hb0.size)
      go_wp2_with fail
      refine (HR.out _).mono ?_
      rintro e w2 ⟨rfl, hb2⟩
      have hX2 : Blk w2 w1.heap.size 24 #[Value.int IntKind.i64 x.y, Value.int IntKind.i64 x.m, Value.int IntKind.i64 x.d, Value.int IntKind.i64 x.h, Value.int IntKind.i64 x.mi, Value.int IntKind.i64 x.s] := Blk.below (Blk.new w1 24 #[Value.int IntKind.i64 x.y, Value.int IntKind.i64 x.m, Value.int IntKind.i64 x.d, Value.int IntKind.i64 x.h, Value.int IntKind.i64 x.mi, Value.int IntKind.i64 x.s]) hb2 (by simp)
      have hw2 := (hw1.alloc hw1.size (Obj.cells #[Value.int IntKind.i64 x.y, Value.int IntKind.i64 x.m, Value.int IntKind.i64 x.d, Value.int IntKind.i64 x.h, Value.int IntKind.i64 x.mi, Value.int IntKind.i64 x.s] 24)).trans (hb2.mono (by have := hw1.size; rw [World.size_alloc]; omega))
      clear hb0 hb1 hb2 hw1
      generalize w1.heap.size = g at *
      obtain ⟨x0, x1, x2, x3, x4, x5⟩ := cells_of (x := x) hX2
      go_wp2_with fail
      refine (HRS.out _).mono ?_
      rintro e w3 ⟨rfl, hb3⟩
      have hX3 := hX2.below hb3 hX2.lt
      have hw3 := hw2.trans (hb3.mono hw2.size)
      clear x0 x1 x2 x3 x4 x5 hX2
      go_wp2_with fail
      refine (HF.out _).mono ?_
      rintro e w4 ⟨rfl, hb4⟩
      have hX4 := hX3.below hb4 hX3.lt
      have hw4 := hw3.trans (hb4.mono hw3.size)
      go_wp2_with fail
      refine (HLA.out _).mono ?_
      rintro e w5 ⟨rfl, hb5⟩
      have hX5 := hX4.below hb5 hX4.lt
      have hw5 := hw4.trans (hb5.mono hw4.size)
      clear hX4
      obtain ⟨x0, x1, x2, x3, x4, x5⟩ := cells_of (x := x) hX5
      go_wp2_with fail
      refine (HR.out _).mono ?_
      rintro e w6 ⟨rfl, hb6⟩
      have hw6 := hw5.trans (hb6.mono hw5.size)
      go_wp2_with fail
      refine (dos_lives _).mono ?_
      rintro e wL ⟨rfl, hbL⟩
      go_wp2_with fail
      go_ret
      exact ⟨rfl, hw6.trans (hbL.mono hw6.size)⟩
    by_cases hbig : 4039286399 < n
    · have HF := Lib.hid (fun W => from_no W n n0 n1 (.inr (by omega)))
      have HR := Lib.hid h2; clear h2
      have HSE := Lib.hid hse; clear hse
      unfold Dt.v at HSP HR HLA
      have HRS := Lib.hid hrs; clear hrs
      unfold Dt.v at HRS
      go_enter Try.func5, Try.ntmps5
      go_wp2_with fail
      refine (HSE.out _).mono ?_
      rintro e w0 ⟨rfl, hb0⟩
      go_wp2_with fail
      refine (HSP.out _).mono ?_
      rintro e w1 ⟨rfl, hb1⟩
      have hw1 := hb0.trans (hb1.mono hb0.size)
      go_wp2_with fail
      refine (HR.out _).mono ?_
      rintro e w2 ⟨rfl, hb2⟩
      have hX2 : Blk w2 w1.heap.size 24 #[Value.int IntKind.i64 x.y, Value.int IntKind.i64 x.m, Value.int IntKind.i64 x.d, Value.int IntKind.i64 x.h, Value.int IntKind.i64 x.mi, Value.int IntKind.i64 x.s] := Blk.below (Blk.new w1 24 #[Value.int IntKind.i64 x.y, Value.int IntKind.i64 x.m, Value.int IntKind.i64 x.d, Value.int IntKind.i64 x.h, Value.int IntKind.i64 x.mi, Value.int IntKind.i64 x.s]) hb2 (by simp)
      have hw2 := (hw1.alloc hw1.size (Obj.cells #[Value.int IntKind.i64 x.y, Value.int IntKind.i64 x.m, Value.int IntKind.i64 x.d, Value.int IntKind.i64 x.h, Value.int IntKind.i64 x.mi, Value.int IntKind.i64 x.s] 24)).trans (hb2.mono (by have := hw1.size; rw [World.size_alloc]; omega))
      clear hb0 hb1 hb2 hw1
      generalize w1.heap.size = g at *
      obtain ⟨x0, x1, x2, x3, x4, x5⟩ := cells_of (x := x) hX2
      go_wp2_with fail
      refine (HRS.out _).mono ?_
      rintro e w3 ⟨rfl, hb3⟩
      have hX3 := hX2.below hb3 hX2.lt
      have hw3 := hw2.trans (hb3.mono hw2.size)
      clear x0 x1 x2 x3 x4 x5 hX2
      go_wp2_with fail
      refine (HF.out _).mono ?_
      rintro e w4 ⟨rfl, hb4⟩
      have hX4 := hX3.below hb4 hX3.lt
      have hw4 := hw3.trans (hb4.mono hw3.size)
      go_wp2_with fail
      refine (HLA.out _).mono ?_
      rintro e w5 ⟨rfl, hb5⟩
      have hX5 := hX4.below hb5 hX4.lt
      have hw5 := hw4.trans (hb5.mono hw4.size)
      clear hX4
      obtain ⟨x0, x1, x2, x3, x4, x5⟩ := cells_of (x := x) hX5
      go_wp2_with fail
      refine (HR.out _).mono ?_
      rintro e w6 ⟨rfl, hb6⟩
      have hw6 := hw5.trans (hb6.mono hw5.size)
      go_wp2_with fail
      refine (dos_lives _).mono ?_
      rintro e wL ⟨rfl, hbL⟩
      go_wp2_with fail
      go_ret
      exact ⟨rfl, hw6.trans (hbL.mono hw6.size)⟩
    · have HF := Lib.hid (fun W => from_any W n (by omega) n1)
      have HR := Lib.hid h2; clear h2
      have HSE := Lib.hid hse; clear hse
      unfold Dt.v at HSP HR HLA
      have HRS := Lib.hid hrs; clear hrs
      unfold Dt.v at HRS
      go_enter Try.func5, Try.ntmps5
      go_wp2_with fail
      refine (HSE.out _).mono ?_
      rintro e w0 ⟨rfl, hb0⟩
      go_wp2_with fail
      refine (HSP.out _).mono ?_
      rintro e w1 ⟨rfl, hb1⟩
      have hw1 := hb0.trans (hb1.mono hb0.size)
      go_wp2_with fail
      refine (HR.out _).mono ?_
      rintro e w2 ⟨rfl, hb2⟩
      have hX2 : Blk w2 w1.heap.size 24 #[Value.int IntKind.i64 x.y, Value.int IntKind.i64 x.m, Value.int IntKind.i64 x.d, Value.int IntKind.i64 x.h, Value.int IntKind.i64 x.mi, Value.int IntKind.i64 x.s] := Blk.below (Blk.new w1 24 #[Value.int IntKind.i64 x.y, Value.int IntKind.i64 x.m, Value.int IntKind.i64 x.d, Value.int IntKind.i64 x.h, Value.int IntKind.i64 x.mi, Value.int IntKind.i64 x.s]) hb2 (by simp)
      have hw2 := (hw1.alloc hw1.size (Obj.cells #[Value.int IntKind.i64 x.y, Value.int IntKind.i64 x.m, Value.int IntKind.i64 x.d, Value.int IntKind.i64 x.h, Value.int IntKind.i64 x.mi, Value.int IntKind.i64 x.s] 24)).trans (hb2.mono (by have := hw1.size; rw [World.size_alloc]; omega))
      clear hb0 hb1 hb2 hw1
      generalize w1.heap.size = g at *
      obtain ⟨x0, x1, x2, x3, x4, x5⟩ := cells_of (x := x) hX2
      go_wp2_with fail
      refine (HRS.out _).mono ?_
      rintro e w3 ⟨rfl, hb3⟩
      have hX3 := hX2.below hb3 hX2.lt
      have hw3 := hw2.trans (hb3.mono hw2.size)
      clear x0 x1 x2 x3 x4 x5 hX2
      go_wp2_with fail
      refine (HF.out _).mono ?_
      rintro e w4 ⟨hr4, hb4⟩
      obtain ⟨z, hz, hzs, _, rfl⟩ : ∃ y : Dt, y.Ok ∧ secsD y = n - n % 2 ∧ n < 4039286400 ∧ e = Ending.returned (.tuple #[.int .u32 (ofD y), .bool true]) := by
        rcases hr4 with h | h
        · exact h
        · omega
      clear hr4
      have hl := ofD_lt hz
      have hs2 := fun W => refSplit_any W (ofD z) hl.1 hl.2
      rw [splitD_ofD hz] at hs2
      have hr2 := fun W => refRight_any W z (in_of_ok hz)
      simp only [decide_eq_true hz] at hr2
      have hrz := fun W => refSeconds_any W z hz
      rw [hzs] at hrz
      have HS2 := Lib.hid hs2; clear hs2
      have HR2 := Lib.hid hr2; clear hr2
      have HRZ := Lib.hid hrz; clear hrz hl hz hzs
      unfold Dt.v at HS2 HR2 HRZ
      generalize ofD z = oz at *
      have hX4 := hX3.below hb4 hX3.lt
      have hw4 := hw3.trans (hb4.mono hw3.size)
      go_wp2_with fail
      refine (HLA.out _).mono ?_
      rintro e w5 ⟨rfl, hb5⟩
      have hX5 := hX4.below hb5 hX4.lt
      have hw5 := hw4.trans (hb5.mono hw4.size)
      clear hX4
      go_wp2_with fail
      refine (HS2.out _).mono ?_
      rintro e w6 ⟨rfl, hb6⟩
      have hX6 := hX5.below hb6 hX5.lt
      have hw6 := hw5.trans (hb6.mono hw5.size)
      have hX6a := hX6.alloc (Obj.cells #[Value.int IntKind.i64 z.y, Value.int IntKind.i64 z.m, Value.int IntKind.i64 z.d, Value.int IntKind.i64 z.h, Value.int IntKind.i64 z.mi, Value.int IntKind.i64 z.s] 24)
      obtain ⟨x0, x1, x2, x3, x4, x5⟩ := cells_of (x := x) hX6a
      go_wp2_with fail
      refine (HR.out _).mono ?_
      rintro e w7 ⟨rfl, hb7⟩
      have hZ7 : Blk w7 w6.heap.size 24 #[Value.int IntKind.i64 z.y, Value.int IntKind.i64 z.m, Value.int IntKind.i64 z.d, Value.int IntKind.i64 z.h, Value.int IntKind.i64 z.mi, Value.int IntKind.i64 z.s] := Blk.below (Blk.new w6 24 #[Value.int IntKind.i64 z.y, Value.int IntKind.i64 z.m, Value.int IntKind.i64 z.d, Value.int IntKind.i64 z.h, Value.int IntKind.i64 z.mi, Value.int IntKind.i64 z.s]) hb7 (by simp)
      have hw7 := (hw6.alloc hw6.size (Obj.cells #[Value.int IntKind.i64 z.y, Value.int IntKind.i64 z.m, Value.int IntKind.i64 z.d, Value.int IntKind.i64 z.h, Value.int IntKind.i64 z.mi, Value.int IntKind.i64 z.s] 24)).trans (hb7.mono (by have := hw6.size; rw [World.size_alloc]; omega))
      clear x0 x1 x2 x3 x4 x5
      obtain ⟨x0, x1, x2, x3, x4, x5⟩ := cells_of (x := z) hZ7
      go_wp2_with fail
      refine (HR2.out _).mono ?_
      rintro e w8 ⟨rfl, hb8⟩
      have hZ8 := hZ7.below hb8 hZ7.lt
      have hw8 := hw7.trans (hb8.mono hw7.size)
      clear x0 x1 x2 x3 x4 x5
      obtain ⟨x0, x1, x2, x3, x4, x5⟩ := cells_of (x := z) hZ8
      go_wp2_with fail
      refine (HRZ.out _).mono ?_
      rintro e w9 ⟨rfl, hb9⟩
      have hw9 := hw8.trans (hb9.mono hw8.size)
      go_wp2_with fail
      refine (dos_lives _).mono ?_
      rintro e wL ⟨rfl, hbL⟩
      go_wp2_with fail
      go_ret
      exact ⟨rfl, hw9.trans (hbL.mono hw9.size)⟩
  · simp only [if_neg hok, decide_eq_false hok] at h2 hse
    clear hok
    by_cases hn : n < 0
    · have HF := Lib.hid (fun W => from_no W n n0 n1 (.inl hn))
      have HR := Lib.hid h2; clear h2
      have HSE := Lib.hid hse; clear hse
      unfold Dt.v at HSP HR HLA
      go_enter Try.func5, Try.ntmps5
      go_wp2_with fail
      refine (HSE.out _).mono ?_
      rintro e w0 ⟨rfl, hb0⟩
      go_wp2_with fail
      refine (HSP.out _).mono ?_
      rintro e w1 ⟨rfl, hb1⟩
      have hw1 := hb0.trans (hb1.mono hb0.size)
      go_wp2_with fail
      refine (HR.out _).mono ?_
      rintro e w2 ⟨rfl, hb2⟩
      have hX2 : Blk w2 w1.heap.size 24 #[Value.int IntKind.i64 x.y, Value.int IntKind.i64 x.m, Value.int IntKind.i64 x.d, Value.int IntKind.i64 x.h, Value.int IntKind.i64 x.mi, Value.int IntKind.i64 x.s] := Blk.below (Blk.new w1 24 #[Value.int IntKind.i64 x.y, Value.int IntKind.i64 x.m, Value.int IntKind.i64 x.d, Value.int IntKind.i64 x.h, Value.int IntKind.i64 x.mi, Value.int IntKind.i64 x.s]) hb2 (by simp)
      have hw2 := (hw1.alloc hw1.size (Obj.cells #[Value.int IntKind.i64 x.y, Value.int IntKind.i64 x.m, Value.int IntKind.i64 x.d, Value.int IntKind.i64 x.h, Value.int IntKind.i64 x.mi, Value.int IntKind.i64 x.s] 24)).trans (hb2.mono (by have := hw1.size; rw [World.size_alloc]; omega))
      clear hb0 hb1 hb2 hw1
      generalize w1.heap.size = g at *
      have hX3 := hX2
      have hw3 := hw2
      go_wp2_with fail
      refine (HF.out _).mono ?_
      rintro e w4 ⟨rfl, hb4⟩
      have hX4 := hX3.below hb4 hX3.lt
      have hw4 := hw3.trans (hb4.mono hw3.size)
      go_wp2_with fail
      refine (HLA.out _).mono ?_
      rintro e w5 ⟨rfl, hb5⟩
      have hX5 := hX4.below hb5 hX4.lt
      have hw5 := hw4.trans (hb5.mono hw4.size)
      clear hX4
      obtain ⟨x0, x1, x2, x3, x4, x5⟩ := cells_of (x := x) hX5
      go_wp2_with fail
      refine (HR.out _).mono ?_
      rintro e w6 ⟨rfl, hb6⟩
      have hw6 := hw5.trans (hb6.mono hw5.size)
      go_wp2_with fail
      refine (dos_lives _).mono ?_
      rintro e wL ⟨rfl, hbL⟩
      go_wp2_with fail
      go_ret
      exact ⟨rfl, hw6.trans (hbL.mono hw6.size)⟩
    by_cases hbig : 4039286399 < n
    · have HF := Lib.hid (fun W => from_no W n n0 n1 (.inr (by omega)))
      have HR := Lib.hid h2; clear h2
      have HSE := Lib.hid hse; clear hse
      unfold Dt.v at HSP HR HLA
      go_enter Try.func5, Try.ntmps5
      go_wp2_with fail
      refine (HSE.out _).mono ?_
      rintro e w0 ⟨rfl, hb0⟩
      go_wp2_with fail
      refine (HSP.out _).mono ?_
      rintro e w1 ⟨rfl, hb1⟩
      have hw1 := hb0.trans (hb1.mono hb0.size)
      go_wp2_with fail
      refine (HR.out _).mono ?_
      rintro e w2 ⟨rfl, hb2⟩
      have hX2 : Blk w2 w1.heap.size 24 #[Value.int IntKind.i64 x.y, Value.int IntKind.i64 x.m, Value.int IntKind.i64 x.d, Value.int IntKind.i64 x.h, Value.int IntKind.i64 x.mi, Value.int IntKind.i64 x.s] := Blk.below (Blk.new w1 24 #[Value.int IntKind.i64 x.y, Value.int IntKind.i64 x.m, Value.int IntKind.i64 x.d, Value.int IntKind.i64 x.h, Value.int IntKind.i64 x.mi, Value.int IntKind.i64 x.s]) hb2 (by simp)
      have hw2 := (hw1.alloc hw1.size (Obj.cells #[Value.int IntKind.i64 x.y, Value.int IntKind.i64 x.m, Value.int IntKind.i64 x.d, Value.int IntKind.i64 x.h, Value.int IntKind.i64 x.mi, Value.int IntKind.i64 x.s] 24)).trans (hb2.mono (by have := hw1.size; rw [World.size_alloc]; omega))
      clear hb0 hb1 hb2 hw1
      generalize w1.heap.size = g at *
      have hX3 := hX2
      have hw3 := hw2
      go_wp2_with fail
      refine (HF.out _).mono ?_
      rintro e w4 ⟨rfl, hb4⟩
      have hX4 := hX3.below hb4 hX3.lt
      have hw4 := hw3.trans (hb4.mono hw3.size)
      go_wp2_with fail
      refine (HLA.out _).mono ?_
      rintro e w5 ⟨rfl, hb5⟩
      have hX5 := hX4.below hb5 hX4.lt
      have hw5 := hw4.trans (hb5.mono hw4.size)
      clear hX4
      obtain ⟨x0, x1, x2, x3, x4, x5⟩ := cells_of (x := x) hX5
      go_wp2_with fail
      refine (HR.out _).mono ?_
      rintro e w6 ⟨rfl, hb6⟩
      have hw6 := hw5.trans (hb6.mono hw5.size)
      go_wp2_with fail
      refine (dos_lives _).mono ?_
      rintro e wL ⟨rfl, hbL⟩
      go_wp2_with fail
      go_ret
      exact ⟨rfl, hw6.trans (hbL.mono hw6.size)⟩
    · have HF := Lib.hid (fun W => from_any W n (by omega) n1)
      have HR := Lib.hid h2; clear h2
      have HSE := Lib.hid hse; clear hse
      unfold Dt.v at HSP HR HLA
      go_enter Try.func5, Try.ntmps5
      go_wp2_with fail
      refine (HSE.out _).mono ?_
      rintro e w0 ⟨rfl, hb0⟩
      go_wp2_with fail
      refine (HSP.out _).mono ?_
      rintro e w1 ⟨rfl, hb1⟩
      have hw1 := hb0.trans (hb1.mono hb0.size)
      go_wp2_with fail
      refine (HR.out _).mono ?_
      rintro e w2 ⟨rfl, hb2⟩
      have hX2 : Blk w2 w1.heap.size 24 #[Value.int IntKind.i64 x.y, Value.int IntKind.i64 x.m, Value.int IntKind.i64 x.d, Value.int IntKind.i64 x.h, Value.int IntKind.i64 x.mi, Value.int IntKind.i64 x.s] := Blk.below (Blk.new w1 24 #[Value.int IntKind.i64 x.y, Value.int IntKind.i64 x.m, Value.int IntKind.i64 x.d, Value.int IntKind.i64 x.h, Value.int IntKind.i64 x.mi, Value.int IntKind.i64 x.s]) hb2 (by simp)
      have hw2 := (hw1.alloc hw1.size (Obj.cells #[Value.int IntKind.i64 x.y, Value.int IntKind.i64 x.m, Value.int IntKind.i64 x.d, Value.int IntKind.i64 x.h, Value.int IntKind.i64 x.mi, Value.int IntKind.i64 x.s] 24)).trans (hb2.mono (by have := hw1.size; rw [World.size_alloc]; omega))
      clear hb0 hb1 hb2 hw1
      generalize w1.heap.size = g at *
      have hX3 := hX2
      have hw3 := hw2
      go_wp2_with fail
      refine (HF.out _).mono ?_
      rintro e w4 ⟨hr4, hb4⟩
      obtain ⟨z, hz, hzs, _, rfl⟩ : ∃ y : Dt, y.Ok ∧ secsD y = n - n % 2 ∧ n < 4039286400 ∧ e = Ending.returned (.tuple #[.int .u32 (ofD y), .bool true]) := by
        rcases hr4 with h | h
        · exact h
        · omega
      clear hr4
      have hl := ofD_lt hz
      have hs2 := fun W => refSplit_any W (ofD z) hl.1 hl.2
      rw [splitD_ofD hz] at hs2
      have hr2 := fun W => refRight_any W z (in_of_ok hz)
      simp only [decide_eq_true hz] at hr2
      have hrz := fun W => refSeconds_any W z hz
      rw [hzs] at hrz
      have HS2 := Lib.hid hs2; clear hs2
      have HR2 := Lib.hid hr2; clear hr2
      have HRZ := Lib.hid hrz; clear hrz hl hz hzs
      unfold Dt.v at HS2 HR2 HRZ
      generalize ofD z = oz at *
      have hX4 := hX3.below hb4 hX3.lt
      have hw4 := hw3.trans (hb4.mono hw3.size)
      go_wp2_with fail
      refine (HLA.out _).mono ?_
      rintro e w5 ⟨rfl, hb5⟩
      have hX5 := hX4.below hb5 hX4.lt
      have hw5 := hw4.trans (hb5.mono hw4.size)
      clear hX4
      go_wp2_with fail
      refine (HS2.out _).mono ?_
      rintro e w6 ⟨rfl, hb6⟩
      have hX6 := hX5.below hb6 hX5.lt
      have hw6 := hw5.trans (hb6.mono hw5.size)
      have hX6a := hX6.alloc (Obj.cells #[Value.int IntKind.i64 z.y, Value.int IntKind.i64 z.m, Value.int IntKind.i64 z.d, Value.int IntKind.i64 z.h, Value.int IntKind.i64 z.mi, Value.int IntKind.i64 z.s] 24)
      obtain ⟨x0, x1, x2, x3, x4, x5⟩ := cells_of (x := x) hX6a
      go_wp2_with fail
      refine (HR.out _).mono ?_
      rintro e w7 ⟨rfl, hb7⟩
      have hZ7 : Blk w7 w6.heap.size 24 #[Value.int IntKind.i64 z.y, Value.int IntKind.i64 z.m, Value.int IntKind.i64 z.d, Value.int IntKind.i64 z.h, Value.int IntKind.i64 z.mi, Value.int IntKind.i64 z.s] := Blk.below (Blk.new w6 24 #[Value.int IntKind.i64 z.y, Value.int IntKind.i64 z.m, Value.int IntKind.i64 z.d, Value.int IntKind.i64 z.h, Value.int IntKind.i64 z.mi, Value.int IntKind.i64 z.s]) hb7 (by simp)
      have hw7 := (hw6.alloc hw6.size (Obj.cells #[Value.int IntKind.i64 z.y, Value.int IntKind.i64 z.m, Value.int IntKind.i64 z.d, Value.int IntKind.i64 z.h, Value.int IntKind.i64 z.mi, Value.int IntKind.i64 z.s] 24)).trans (hb7.mono (by have := hw6.size; rw [World.size_alloc]; omega))
      clear x0 x1 x2 x3 x4 x5
      obtain ⟨x0, x1, x2, x3, x4, x5⟩ := cells_of (x := z) hZ7
      go_wp2_with fail
      refine (HR2.out _).mono ?_
      rintro e w8 ⟨rfl, hb8⟩
      have hZ8 := hZ7.below hb8 hZ7.lt
      have hw8 := hw7.trans (hb8.mono hw7.size)
      clear x0 x1 x2 x3 x4 x5
      obtain ⟨x0, x1, x2, x3, x4, x5⟩ := cells_of (x := z) hZ8
      go_wp2_with fail
      refine (HRZ.out _).mono ?_
      rintro e w9 ⟨rfl, hb9⟩
      have hw9 := hw8.trans (hb9.mono hw8.size)
      go_wp2_with fail
      refine (dos_lives _).mono ?_
      rintro e wL ⟨rfl, hbL⟩
      go_wp2_with fail
      go_ret
      exact ⟨rfl, hw9.trans (hbL.mono hw9.size)⟩
set_option maxRecDepth 100000 in
theorem dosSeconds_walk : Walks 5 Try.f5 := by
  intro H enc W base args ds ps hval hA hlt hsz
  rw [Try.params5] at hA hval
  obtain ⟨v0, v1, d0, d1, p0, p1, rfl, rfl, rfl, h0, h1⟩ := trodAll_two hA
  obtain ⟨t, rfl, rfl, rfl, wt⟩ := open_int Try.underlying22 (hval 0 22 v0 rfl rfl) h0
  obtain ⟨n, rfl, rfl, rfl, wn⟩ := open_int Try.underlying2 (hval 1 2 v1 rfl rfl) h1
  obtain ⟨t0, t1⟩ := bounds_u32 wt
  obtain ⟨n0, n1⟩ := bounds_i64 wn
  exact dosSeconds_main t n W (by omega) (by omega) (by omega) (by omega)
end Go.Proofs.Ythmlfeaoaanmoaa
