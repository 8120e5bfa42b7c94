/- The walk of SymbolBack. -/
import Derived.Test.YthdmajhhioiaoaaSymbolLaws
import Derived.Test.YthdmajhhioiaoaaSymbolPlainB
set_option linter.unusedVariables false
namespace Go.Proofs.Ythdmajhhioiaoaa
open Go.ChangeShapes Go.WideShapes Go.ChangeAt Go.RowKit
open Sw
theorem sh64i (b y : Nat) (hb : b ≤ 31) (hy : 2 ^ b = y) : IntKind.i64.wrap ((2 : Int) ^ b) = (y : Int) := by
  have h3 := Nat.pow_le_pow_right (n := 2) (by omega) hb
  have e : (2 : Int) ^ b = ((2 ^ b : Nat) : Int) := by rw [Int.natCast_pow]; rfl
  rw [e, hy]
  rw [hy] at h3
  exact IntWalk.i64_in _ (by omega)
theorem le_alloc {B : Nat} {w : World} (h : B ≤ w.heap.size) (o : Obj) : B ≤ (w.alloc o).heap.size := by
  rw [World.size_alloc]; omega
/-- what is known between the calls: the two signs lie as they were laid -/
def TwoSigns (W : World) (g1 g2 : Nat) (a b c d e f : Value) (w : World) : Prop := Blk w g1 42 #[a, b, c] ∧ Blk w g2 42 #[d, e, f] ∧ Below W.heap.size W w
theorem TwoSigns.below {W w w' : World} {g1 g2 : Nat} {a b c d e f : Value} (h : TwoSigns W g1 g2 a b c d e f w) (hb : Below w.heap.size w w') : TwoSigns W g1 g2 a b c d e f w' :=
  ⟨h.1.below hb h.1.lt, h.2.1.below hb h.2.1.lt, h.2.2.trans (hb.mono h.2.2.size)⟩
theorem TwoSigns.cells {W w : World} {g1 g2 : Nat} {a b c d e f : Value} (h : TwoSigns W g1 g2 a b c d e f w) :
    w.cell? ⟨g1, 0, none⟩ = some a ∧ w.cell? ⟨g1, 1, none⟩ = some b ∧ w.cell? ⟨g1, 2, none⟩ = some c ∧ w.cell? ⟨g2, 0, none⟩ = some d ∧ w.cell? ⟨g2, 1, none⟩ = some e ∧ w.cell? ⟨g2, 2, none⟩ = some f ∧ TwoSigns W g1 g2 a b c d e f w :=
  ⟨h.1.cell 0, h.1.cell 1, h.1.cell 2, h.2.1.cell 0, h.2.1.cell 1, h.2.1.cell 2, h⟩
theorem TwoSigns.drew {W w : World} {g1 g2 : Nat} {a b c d e f : Value} (h : TwoSigns W g1 g2 a b c d e f w) : TwoSigns W g1 g2 a b c d e f w.drew := ⟨h.1, h.2.1, h.2.2.drew⟩
theorem pow_bound (q : Nat) (s : Int) (hq : q ≤ 13) (h : s < ((2 ^ q : Nat) : Int)) : s < 8192 := by
  have h13 : 2 ^ q ≤ 8192 := Nat.pow_le_pow_right (n := 2) (by omega) hq
  have h2 : ((2 ^ q : Nat) : Int) ≤ ((8192 : Nat) : Int) := Int.ofNat_le.2 h13
  exact Int.lt_of_lt_of_le h h2
set_option maxRecDepth 1000000 in
set_option maxHeartbeats 2000000 in
theorem symbolBack_main (l k : Nat) (w : World) (hl : l < 18446744073709551616) (hk : k < 18446744073709551616) :
    Calls Try.prog 10 #[.int .u64 l, .int .u64 k] w fun e w' => e = .returned (.bool true) ∧ Below w.heap.size w w' := by
  obtain ⟨c, b, r, hS, hc, hr0, hr1, hb5, hof, hbt, hnx⟩ := long_fact (3 + (l : Int) % 256) (by omega) (by omega)
  obtain ⟨p, q, s, hS2, hp, hs0, hs1, hq, hof2, hbt2, hnx2⟩ := back_fact (1 + (k : Int) % 32768) (by omega) (by omega)
  have A := fun W => long_any W (3 + (l : Int) % 256) (by omega) (by omega)
  have A2 := fun W => long_any W (3 + (l : Int) % 256 + 1) (by omega) (by omega)
  have B := fun W => back_any W (1 + (k : Int) % 32768) (by omega) (by omega)
  have B2 := fun W => back_any W (1 + (k : Int) % 32768 + 1) (by omega) (by omega)
  have C := fun W => longOf_any W c r (by omega) (by omega)
  have D := fun W => backOf_any W p s
  have E := fun W => longBits_any W c (by omega) (by omega)
  have F := fun W => backBits_any W p
  rw [hS] at A
  rw [hS2] at B
  rw [hof] at C
  rw [hof2] at D
  rw [hbt] at E
  rw [hbt2] at F
  simp only [signV, numV] at A B C D
  have HA := Lib.hid A; clear A
  have HA2 := Lib.hid A2; clear A2
  have HB := Lib.hid B; clear B
  have HB2 := Lib.hid B2; clear B2
  have HC := Lib.hid C; clear C
  have HD := Lib.hid D; clear D
  have HE := Lib.hid E; clear E
  have HF := Lib.hid F; clear F
  have HNX := Lib.hid hnx; clear hnx
  have HNX2 := Lib.hid hnx2; clear hnx2
  clear hS hS2 hof hof2 hbt hbt2
  have e1 := sh64i b _ (by omega) rfl
  have e2 := sh64i q _ (by omega) rfl
  have e3 := sh64 b _ (by omega) rfl
  have e4 := sh64 q _ (by omega) rfl
  have hsb : s < 8192 := pow_bound q s hq hs1
  generalize 2 ^ b = y at *
  generalize 2 ^ q = z at *
  go_enter Try.func10, Try.ntmps10
  go_wp2_with fail
  refine (HA.out _).mono ?_
  rintro e w1 ⟨rfl, hb1⟩
  go_wp2_with fail
  refine (HB.out _).mono ?_
  rintro e w2 ⟨rfl, hb2⟩
  have hA2 := Blk.below (Blk.new w1 42 #[.int .i64 c, .int .i64 b, .int .i64 r]) hb2 (by simp)
  have W2 := (hb1.alloc hb1.size (Obj.cells #[.int .i64 c, .int .i64 b, .int .i64 r] 42)).trans (hb2.mono (by have := hb1.size; simp; omega))
  have q0 : ∀ o, (w2.alloc o).cell? ⟨w1.heap.size, 0, none⟩ = some (.int .i64 c) := fun o => (hA2.alloc o).cell 0
  have q2 : ∀ o, (w2.alloc o).cell? ⟨w1.heap.size, 2, none⟩ = some (.int .i64 r) := fun o => (hA2.alloc o).cell 2
  go_wp2_with fail
  refine (HC.out _).mono ?_
  rintro e w3 ⟨rfl, hb3⟩
  have T3 : TwoSigns w w1.heap.size w2.heap.size (.int .i64 c) (.int .i64 b) (.int .i64 r) (.int .i64 p) (.int .i64 q) (.int .i64 s) w3 :=
    TwoSigns.below (w := w2.alloc (Obj.cells #[.int .i64 p, .int .i64 q, .int .i64 s] 42)) ⟨hA2.alloc _, Blk.new w2 _ _, W2.alloc W2.size _⟩ hb3
  obtain ⟨x0, x1, x2, x3, x4, x5, _⟩ := T3.cells
  clear q0 q2
  go_wp2_with fail
  refine (HD.out _).mono ?_
  rintro e w4 ⟨rfl, hb4⟩
  have T4 := T3.below hb4
  clear x0 x1 x2 x3 x4 x5
  generalize w1.heap.size = g1 at *
  generalize w2.heap.size = g2 at *
  obtain ⟨x0, x1, x2, x3, x4, x5, _⟩ := T4.cells
  have T4d := T4.drew
  have y1 : ((y : Int) ≤ r) = False := by simp; omega
  have z1 : ((z : Int) ≤ s) = False := by simp; omega
  go_wp2_with fail
  go_region_held3 (fun w' => w'.cell? ⟨g1, 0, none⟩ = some (.int .i64 c) ∧ w'.cell? ⟨g1, 1, none⟩ = some (.int .i64 b) ∧ w'.cell? ⟨g1, 2, none⟩ = some (.int .i64 r) ∧ w'.cell? ⟨g2, 0, none⟩ = some (.int .i64 p) ∧ w'.cell? ⟨g2, 1, none⟩ = some (.int .i64 q) ∧ w'.cell? ⟨g2, 2, none⟩ = some (.int .i64 s) ∧ TwoSigns w g1 g2 (.int .i64 c) (.int .i64 b) (.int .i64 r) (.int .i64 p) (.int .i64 q) (.int .i64 s) w')
    (first | exact T4d.cells | exact ((T4d.below hbE).below hbF).cells | exact (T4d.below hbE).cells)
    (first | (go_at_call 49; refine (HE.out _).mono ?_; rintro e wE ⟨rfl, hbE⟩) | (go_at_call 31; refine (HF.out _).mono ?_; rintro e wF ⟨rfl, hbF⟩))
  have T6 := (T4d.below hbE).below hbF
  clear T3 T4 T4d x0 x1 x2 x3 x4 x5 hA2 W2 y1 z1 e1 e2 e3 e4 hr0 hr1 hs1
  obtain ⟨c1, b1, r1, ok1, hv1, hc1⟩ : ∃ (c1 b1 : Nat) (r1 : Int) (ok1 : Bool), signV (longS (3 + (l : Int) % 256 + 1)) = .tuple #[.agg #[.int .i64 c1, .int .i64 b1, .int .i64 r1], .bool ok1] ∧
      ((ok1 = false ∧ 258 ≤ 3 + (l : Int) % 256) ∨ (ok1 = true ∧ 3 + (l : Int) % 256 < 258 ∧ c = c1) ∨ (ok1 = true ∧ 3 + (l : Int) % 256 < 258 ∧ c1 = c + 1 ∧ r1 = 0)) := by
    rcases HNX.out with ⟨h1, c', b', r', h2, _, h3⟩ | ⟨h1, h2⟩
    · rw [h2]
      rcases h3 with h3 | ⟨h3, h4⟩
      · exact ⟨c', b', r', true, rfl, .inr (.inl ⟨rfl, h1, h3.symm⟩)⟩
      · exact ⟨c', b', r', true, rfl, .inr (.inr ⟨rfl, h1, h3, h4⟩)⟩
    · rw [h2]
      exact ⟨0, 0, 0, false, rfl, .inl ⟨rfl, by omega⟩⟩
  obtain ⟨p1, q1, s1, ok2, hv2, hc2⟩ : ∃ (p1 q1 : Nat) (s1 : Int) (ok2 : Bool), signV (backS (1 + (k : Int) % 32768 + 1)) = .tuple #[.agg #[.int .i64 p1, .int .i64 q1, .int .i64 s1], .bool ok2] ∧
      ((ok2 = false ∧ 32768 ≤ 1 + (k : Int) % 32768) ∨ (ok2 = true ∧ 1 + (k : Int) % 32768 < 32768 ∧ p1 = p ∧ s1 = s + 1) ∨ (ok2 = true ∧ 1 + (k : Int) % 32768 < 32768 ∧ p1 = p + 1 ∧ s1 = 0)) := by
    rcases HNX2.out with ⟨h1, c', b', r', h2, _, h3⟩ | ⟨h1, h2⟩
    · rw [h2]
      rcases h3 with ⟨h3, h4⟩ | ⟨h3, h4⟩
      · exact ⟨c', b', r', true, rfl, .inr (.inl ⟨rfl, h1, h3, h4⟩)⟩
      · exact ⟨c', b', r', true, rfl, .inr (.inr ⟨rfl, h1, h3, h4⟩)⟩
    · rw [h2]
      exact ⟨0, 0, 0, false, rfl, .inl ⟨rfl, by omega⟩⟩
  have A2 := HA2.out
  have B2 := HB2.out
  rw [hv1] at A2
  rw [hv2] at B2
  clear hv1 hv2 HA HB HC HD HE HF HNX HNX2 HA2 HB2
  have HA2 := Lib.hid A2; clear A2
  have HB2 := Lib.hid B2; clear B2
  have HC2 := Lib.hid hc2; clear hc2
  rcases hc1 with ⟨rfl, h1⟩ | ⟨rfl, h1, hcc⟩ | ⟨rfl, h1, rfl, rfl⟩
  all_goals
    try subst c1
    go_wp2_with fail
    refine (HA2.out _).mono ?_
    rintro e w7 ⟨rfl, hb7⟩
    have T7 := T6.below hb7
    have q0 : ∀ o, (w7.alloc o).cell? ⟨g1, 0, none⟩ = some (.int .i64 c) := fun o => (T7.1.alloc o).cell 0
    go_wp2_with fail
    refine (HB2.out _).mono ?_
    rintro e w8 ⟨rfl, hb8⟩
    clear q0
    have q0 : ∀ o, (w8.alloc o).cell? ⟨g2, 0, none⟩ = some (.int .i64 p) := fun o => ((T7.2.1.alloc _).below hb8 (T7.2.1.alloc _).lt |>.alloc o).cell 0
    have q2 : ∀ o, (w8.alloc o).cell? ⟨g2, 2, none⟩ = some (.int .i64 s) := fun o => ((T7.2.1.alloc _).below hb8 (T7.2.1.alloc _).lt |>.alloc o).cell 2
    have hb8' := (T7.2.2.alloc T7.2.2.size _).trans (hb8.mono (by have := T7.2.2.size; simp; omega))
    clear hb8
    have e7 : (((p : Int) + 1) == (p : Int)) = false := by rw [beq_eq_false_iff_ne]; omega
    have e8 : (((p + 1 : Nat) : Int) == (p : Int)) = false := by rw [beq_eq_false_iff_ne]; omega
    have hp3 : (p : Int) < 30 := by omega
    rcases HC2.out with ⟨rfl, h2⟩ | ⟨rfl, h2, rfl, rfl⟩ | ⟨rfl, h2, rfl, rfl⟩
    all_goals
      go_wp2_with fail
      refine (symbol_lives _).mono ?_
      rintro e w9 ⟨rfl, hb9⟩
      go_wp2_with fail
      go_ret
      refine ⟨?_, (hb8'.alloc hb8'.size _).trans (hb9.mono (le_alloc hb8'.size _))⟩
      first | (simp; done) | (simp; omega) | (simp only [List.append_eq, List.cons_append, List.nil_append]; rfl)
theorem symbolBack_walk : Walks 10 Try.f10 := by
  intro H enc W base args ds ps hval hA hlt hsz
  rw [Try.params10] at hA hval
  obtain ⟨v0, v1, d0, d1, p0, p1, rfl, rfl, rfl, h0, h1⟩ := trodAll_two hA
  obtain ⟨l, rfl, rfl, rfl, wl⟩ := open_int Try.underlying58 (hval 0 58 v0 rfl rfl) h0
  obtain ⟨k, rfl, rfl, rfl, wk⟩ := open_int Try.underlying58 (hval 1 58 v1 rfl rfl) h1
  obtain ⟨l0, l1⟩ := bounds_u64 wl
  obtain ⟨k0, k1⟩ := bounds_u64 wk
  obtain ⟨l, rfl⟩ := Int.eq_ofNat_of_zero_le l0
  obtain ⟨k, rfl⟩ := Int.eq_ofNat_of_zero_le k0
  exact symbolBack_main l k W (by omega) (by omega)
end Go.Proofs.Ythdmajhhioiaoaa
