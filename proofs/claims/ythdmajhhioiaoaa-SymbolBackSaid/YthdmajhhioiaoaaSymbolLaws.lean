/- The walks of SymbolLongs and SymbolBacks. -/
import Derived.Test.YthdmajhhioiaoaaLift
import Derived.Test.YthdmajhhioiaoaaSymbolRefC
set_option linter.unusedVariables false
namespace Go.Proofs.Ythdmajhhioiaoaa
open Go.ChangeShapes Go.WideShapes Go.ChangeAt Go.RowKit
open Sw
theorem cells3 {w : World} {g : Nat} {t : TypeId} {a b c : Value} (h : Blk w g t #[a, b, c]) : w.cell? ⟨g, 0, none⟩ = some a ∧ w.cell? ⟨g, 1, none⟩ = some b ∧ w.cell? ⟨g, 2, none⟩ = some c := ⟨h.cell 0, h.cell 1, h.cell 2⟩
theorem symbol_lives (w : World) : Calls Try.prog 33 #[] w fun e w' => e = .returned (.bool true) ∧ Below w.heap.size w w' := by
  have h1 : signV (longS 13) = .tuple #[.agg #[.int .i64 266, .int .i64 1, .int .i64 0], .bool true] := by kernel_rfl
  have h2 : signV (backS 7) = .tuple #[.agg #[.int .i64 5, .int .i64 1, .int .i64 0], .bool true] := by kernel_rfl
  have a := fun W => h1 ▸ long_any W 13 (by omega) (by omega)
  have b := fun W => h2 ▸ back_any W 7 (by omega) (by omega)
  have HA := Lib.hid a; clear a h1
  have HB := Lib.hid b; clear b h2
  go_enter Try.func33, Try.ntmps33
  go_wp2_with fail
  refine (HA.out _).mono ?_
  rintro e w1 ⟨rfl, hb1⟩
  go_wp2_with fail
  refine (HB.out _).mono ?_
  rintro e w2 ⟨rfl, hb2⟩
  have hA := Blk.below (Blk.new w1 42 #[.int .i64 266, .int .i64 1, .int .i64 0]) hb2 (by simp)
  have q0 : ∀ o, (w2.alloc o).cell? ⟨w1.heap.size, 0, none⟩ = some (.int .i64 266) := fun o => (hA.alloc o).cell 0
  have q1 : ∀ o, (w2.alloc o).cell? ⟨w1.heap.size, 1, none⟩ = some (.int .i64 1) := fun o => (hA.alloc o).cell 1
  have q2 : ∀ o, (w2.alloc o).cell? ⟨w1.heap.size, 2, none⟩ = some (.int .i64 0) := fun o => (hA.alloc o).cell 2
  go_wp2_with fail
  go_ret
  have hb12 := (hb1.alloc hb1.size (Obj.cells #[.int .i64 266, .int .i64 1, .int .i64 0] 42)).trans (hb2.mono (by have := hb1.size; simp; omega))
  exact ⟨rfl, hb12.alloc hb12.size _⟩
set_option maxRecDepth 100000 in
set_option maxHeartbeats 1000000 in
theorem symbolLongs_main (n code more : Int) (w : World) (n0 : -9223372036854775808 ≤ n) (n1 : n ≤ 9223372036854775807) (c0 : -9223372036854775808 ≤ code) (c1 : code ≤ 9223372036854775807) (m0 : -9223372036854775808 ≤ more) (m1 : more ≤ 9223372036854775807) :
    Calls Try.prog 9 #[.int .i64 n, .int .i64 code, .int .i64 more] w fun e w' => e = .returned (.bool true) ∧ Below w.heap.size w w' := by
  have a := fun W => signV_sg (longS n) ▸ long_any W n n0 n1
  have b := fun W => signV_sg (longS n) ▸ refLong_any W n n0 n1
  obtain ⟨x, ok, hx, _⟩ := numV_cases (longOfS code more)
  have c := fun W => hx ▸ longOf_any W code more c0 c1
  have d := fun W => hx ▸ refLongOf_any W code more
  have HA := Lib.hid a; clear a
  have HB := Lib.hid b; clear b
  have HC := Lib.hid c; clear c
  have HD := Lib.hid d; clear d hx
  generalize sg (longS n) = s at *
  obtain ⟨p, q, r⟩ := s
  generalize (longS n).isSome = y at *
  have HE := Lib.hid (fun W => longBits_any W code c0 c1)
  have HF := Lib.hid (fun W => refLongBits_any W code)
  generalize longBitsS code = z at *
  simp only at HA HB
  go_enter Try.func9, Try.ntmps9
  go_wp2_with fail
  refine (HA.out _).mono ?_
  rintro e w1 ⟨rfl, hb1⟩
  go_wp2_with fail
  refine (HB.out _).mono ?_
  rintro e w2 ⟨rfl, hb2⟩
  have hA2 := Blk.below (Blk.new w1 42 #[.int .i64 p, .int .i64 q, .int .i64 r]) hb2 (by simp)
  have B2 := (hb1.alloc hb1.size (Obj.cells #[.int .i64 p, .int .i64 q, .int .i64 r] 42)).trans (hb2.mono (by have := hb1.size; simp; omega))
  go_wp2_with fail
  refine (HC.out _).mono ?_
  rintro e w3 ⟨rfl, hb3⟩
  have hA3 := (hA2.alloc (Obj.cells #[.int .i64 p, .int .i64 q, .int .i64 r] 45)).below hb3 (by have := hA2.lt; simp; omega)
  have hB3 := Blk.below (Blk.new w2 45 #[.int .i64 p, .int .i64 q, .int .i64 r]) hb3 (by simp)
  have B3 := (B2.alloc B2.size (Obj.cells #[.int .i64 p, .int .i64 q, .int .i64 r] 45)).trans (hb3.mono (by have := B2.size; simp; omega))
  go_wp2_with fail
  refine (HD.out _).mono ?_
  rintro e w4 ⟨rfl, hb4⟩
  have hA4 := hA3.below hb4 hA3.lt
  have hB4 := hB3.below hb4 hB3.lt
  have B4 := B3.trans (hb4.mono B3.size)
  obtain ⟨a0, a1, a2⟩ := cells3 hA4
  obtain ⟨b0, b1, b2⟩ := cells3 hB4
  clear hA2 hA3 hB3 hA4 hB4
  go_wp2_with fail
  refine (HE.out _).mono ?_
  rintro e w5 ⟨rfl, hb5⟩
  have B5 := B4.trans (hb5.mono B4.size)
  go_wp2_with fail
  refine (HF.out _).mono ?_
  rintro e w6 ⟨rfl, hb6⟩
  have B6 := B5.trans (hb6.mono B5.size)
  go_wp2_with fail
  refine (symbol_lives _).mono ?_
  rintro e w7 ⟨rfl, hb7⟩
  go_wp2_with fail
  go_ret
  exact ⟨rfl, B6.trans (hb7.mono B6.size)⟩
theorem symbolLongs_walk : Walks 9 Try.f9 := by
  intro H enc W base args ds ps hval hA hlt hsz
  rw [Try.params9] at hA hval
  obtain ⟨v0, v1, v2, d0, d1, d2, p0, p1, p2, rfl, rfl, rfl, h0, h1, h2⟩ := trodAll_three hA
  obtain ⟨n, rfl, rfl, rfl, wn⟩ := open_int Try.underlying3 (hval 0 3 v0 rfl rfl) h0
  obtain ⟨c, rfl, rfl, rfl, wc⟩ := open_int Try.underlying3 (hval 1 3 v1 rfl rfl) h1
  obtain ⟨m, rfl, rfl, rfl, wm⟩ := open_int Try.underlying3 (hval 2 3 v2 rfl rfl) h2
  obtain ⟨n0, n1⟩ := bounds_i64 wn
  obtain ⟨c0, c1⟩ := bounds_i64 wc
  obtain ⟨m0, m1⟩ := bounds_i64 wm
  exact symbolLongs_main n c m W n0 n1 c0 c1 m0 m1
set_option maxRecDepth 100000 in
set_option maxHeartbeats 1000000 in
theorem symbolBacks_main (n code more : Int) (w : World) (n0 : -9223372036854775808 ≤ n) (n1 : n ≤ 9223372036854775807) (c0 : -9223372036854775808 ≤ code) (c1 : code ≤ 9223372036854775807) (m0 : -9223372036854775808 ≤ more) (m1 : more ≤ 9223372036854775807) :
    Calls Try.prog 5 #[.int .i64 n, .int .i64 code, .int .i64 more] w fun e w' => e = .returned (.bool true) ∧ Below w.heap.size w w' := by
  have a := fun W => signV_sg (backS n) ▸ back_any W n n0 n1
  have b := fun W => signV_sg (backS n) ▸ refBack_any W n n0 n1
  obtain ⟨x, ok, hx, _⟩ := numV_cases (backOfS code more)
  have c := fun W => hx ▸ backOf_any W code more
  have d := fun W => hx ▸ refBackOf_any W code more m0 m1
  have HA := Lib.hid a; clear a
  have HB := Lib.hid b; clear b
  have HC := Lib.hid c; clear c
  have HD := Lib.hid d; clear d hx
  generalize sg (backS n) = s at *
  obtain ⟨p, q, r⟩ := s
  generalize (backS n).isSome = y at *
  have HE := Lib.hid (fun W => backBits_any W code)
  have HF := Lib.hid (fun W => refBackBits_any W code)
  generalize backBitsS code = z at *
  simp only at HA HB
  go_enter Try.func5, Try.ntmps5
  go_wp2_with fail
  refine (HA.out _).mono ?_
  rintro e w1 ⟨rfl, hb1⟩
  go_wp2_with fail
  refine (HB.out _).mono ?_
  rintro e w2 ⟨rfl, hb2⟩
  have hA2 := Blk.below (Blk.new w1 42 #[.int .i64 p, .int .i64 q, .int .i64 r]) hb2 (by simp)
  have B2 := (hb1.alloc hb1.size (Obj.cells #[.int .i64 p, .int .i64 q, .int .i64 r] 42)).trans (hb2.mono (by have := hb1.size; simp; omega))
  go_wp2_with fail
  refine (HC.out _).mono ?_
  rintro e w3 ⟨rfl, hb3⟩
  have hA3 := (hA2.alloc (Obj.cells #[.int .i64 p, .int .i64 q, .int .i64 r] 45)).below hb3 (by have := hA2.lt; simp; omega)
  have hB3 := Blk.below (Blk.new w2 45 #[.int .i64 p, .int .i64 q, .int .i64 r]) hb3 (by simp)
  have B3 := (B2.alloc B2.size (Obj.cells #[.int .i64 p, .int .i64 q, .int .i64 r] 45)).trans (hb3.mono (by have := B2.size; simp; omega))
  go_wp2_with fail
  refine (HD.out _).mono ?_
  rintro e w4 ⟨rfl, hb4⟩
  have hA4 := hA3.below hb4 hA3.lt
  have hB4 := hB3.below hb4 hB3.lt
  have B4 := B3.trans (hb4.mono B3.size)
  obtain ⟨a0, a1, a2⟩ := cells3 hA4
  obtain ⟨b0, b1, b2⟩ := cells3 hB4
  clear hA2 hA3 hB3 hA4 hB4
  go_wp2_with fail
  refine (HE.out _).mono ?_
  rintro e w5 ⟨rfl, hb5⟩
  have B5 := B4.trans (hb5.mono B4.size)
  go_wp2_with fail
  refine (HF.out _).mono ?_
  rintro e w6 ⟨rfl, rfl⟩
  have B6 := B5
  go_wp2_with fail
  refine (symbol_lives _).mono ?_
  rintro e w7 ⟨rfl, hb7⟩
  go_wp2_with fail
  go_ret
  exact ⟨rfl, B6.trans (hb7.mono B6.size)⟩
theorem symbolBacks_walk : Walks 5 Try.f5 := by
  intro H enc W base args ds ps hval hA hlt hsz
  rw [Try.params5] at hA hval
  obtain ⟨v0, v1, v2, d0, d1, d2, p0, p1, p2, rfl, rfl, rfl, h0, h1, h2⟩ := trodAll_three hA
  obtain ⟨n, rfl, rfl, rfl, wn⟩ := open_int Try.underlying3 (hval 0 3 v0 rfl rfl) h0
  obtain ⟨c, rfl, rfl, rfl, wc⟩ := open_int Try.underlying3 (hval 1 3 v1 rfl rfl) h1
  obtain ⟨m, rfl, rfl, rfl, wm⟩ := open_int Try.underlying3 (hval 2 3 v2 rfl rfl) h2
  obtain ⟨n0, n1⟩ := bounds_i64 wn
  obtain ⟨c0, c1⟩ := bounds_i64 wc
  obtain ⟨m0, m1⟩ := bounds_i64 wm
  exact symbolBacks_main n c m W n0 n1 c0 c1 m0 m1
end Go.Proofs.Ythdmajhhioiaoaa
