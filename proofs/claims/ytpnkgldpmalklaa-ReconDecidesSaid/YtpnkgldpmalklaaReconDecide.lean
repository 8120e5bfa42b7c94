/- Contracts of recon.Class, node.Same, recon.Decide, and of the reference's Class and Decide. -/
import Derived.Test.YtpnkgldpmalklaaDetState
set_option linter.unusedVariables false
set_option linter.unusedSimpArgs false
namespace Sw
open Go
/-- the class of a conflict -/
def classN (a b : Nd) : Int := if a.kind = 0 ∨ b.kind = 0 then 2 else if a.kind ≠ b.kind then 3 else 1
/-- what is decided -/
def decideN (was : Pr) (had : Bool) (a b : Nd) : Int × Int :=
  if printN a = printN b then (0, 0) else if stateN was had a = 0 then (1, 0) else if stateN was had b = 0 then (2, 0) else (3, classN a b)
end Sw
namespace Go.Proofs.Ytpnkgldpmalklaa
open Go.RowKit
open Sw
set_option maxRecDepth 100000 in
theorem eq_print (p q : Pr) (W : World) : (binOp .eql 64 (.agg p.c) (.agg q.c)).run Try.prog W = .ok (.bool (decide (p = q))) W := by
  obtain ⟨k1, m1, t1, z1, u1⟩ := p
  obtain ⟨k2, m2, t2, z2, u2⟩ := q
  unfold Pr.c
  by_cases h1 : k1 = k2
  · subst h1
    by_cases h2 : m1 = m2
    · subst h2
      by_cases h3 : t1 = t2
      · subst h3
        by_cases h4 : z1 = z2
        · subst h4
          by_cases h5 : u1 = u2
          · subst h5
            simp [go_sem, Try.underlying64, Try.underlying3, Try.underlying62]
          · have hb := beq_eq_false_iff_ne.2 h5
            simp [go_sem, hb, h5, Try.underlying64, Try.underlying3, Try.underlying62]
        · have hb := beq_eq_false_iff_ne.2 h4
          simp [go_sem, hb, h4, Try.underlying64, Try.underlying3, Try.underlying62]
      · have hb := beq_eq_false_iff_ne.2 h3
        simp [go_sem, hb, h3, Try.underlying64, Try.underlying3, Try.underlying62]
    · have hb := beq_eq_false_iff_ne.2 h2
      simp [go_sem, hb, h2, Try.underlying64, Try.underlying3, Try.underlying62]
  · have hb := beq_eq_false_iff_ne.2 h1
    simp [go_sem, hb, h1, Try.underlying64, Try.underlying3, Try.underlying62]
set_option maxRecDepth 100000 in
theorem class_any (w : World) (a b : Nd) :
    Calls Try.prog 38 #[.agg a.c, .agg b.c] w fun e w' => e = .returned (.int .i64 (classN a b)) ∧ Below w.heap.size w w' := by
  unfold classN Nd.c
  have hb2 := ((Below.refl w.heap.size w).alloc (Nat.le_refl _) (.cells #[.int .i64 a.kind, .int .i64 a.mode, .int .u32 a.time, .string a.data] 66)).alloc (by simp) (.cells #[.int .i64 b.kind, .int .i64 b.mode, .int .u32 b.time, .string b.data] 66)
  by_cases ha : a.kind = 0
  · have hab : (a.kind == 0) = true := by rw [beq_iff_eq]; exact ha
    rw [if_pos (.inl ha)]
    clear ha
    go_enter Try.func38, Try.ntmps38
    go_wp2_with fail
    go_ret
    exact ⟨rfl, hb2⟩
  · have hab : (a.kind == 0) = false := by rw [beq_eq_false_iff_ne]; exact ha
    by_cases hb : b.kind = 0
    · have hbb : (b.kind == 0) = true := by rw [beq_iff_eq]; exact hb
      rw [if_pos (.inr hb)]
      clear ha hb
      go_enter Try.func38, Try.ntmps38
      go_wp2_with fail
      go_ret
      exact ⟨rfl, hb2⟩
    · have hbb : (b.kind == 0) = false := by rw [beq_eq_false_iff_ne]; exact hb
      rw [if_neg (by omega)]
      by_cases hc : a.kind = b.kind
      · have hcb : (a.kind != b.kind) = false := by rw [bne_eq_false_iff_eq]; exact hc
        rw [if_neg (by omega)]
        clear ha hb hc
        go_enter Try.func38, Try.ntmps38
        go_wp2_with fail
        go_ret
        exact ⟨rfl, hb2⟩
      · have hcb : (a.kind != b.kind) = true := by rw [bne_iff_ne]; exact hc
        rw [if_pos hc]
        clear ha hb hc
        go_enter Try.func38, Try.ntmps38
        go_wp2_with fail
        go_ret
        exact ⟨rfl, hb2⟩
set_option maxRecDepth 100000 in
theorem refClass_any (w : World) (a b : Nd) :
    Calls Try.prog 39 #[.agg a.c, .agg b.c] w fun e w' => e = .returned (.int .i64 (classN a b)) ∧ Below w.heap.size w w' := by
  unfold classN Nd.c
  have hb2 := ((Below.refl w.heap.size w).alloc (Nat.le_refl _) (.cells #[.int .i64 a.kind, .int .i64 a.mode, .int .u32 a.time, .string a.data] 66)).alloc (by simp) (.cells #[.int .i64 b.kind, .int .i64 b.mode, .int .u32 b.time, .string b.data] 66)
  by_cases ha : a.kind = 0
  · have hab : (a.kind == 0) = true := by rw [beq_iff_eq]; exact ha
    rw [if_pos (.inl ha)]
    clear ha
    go_enter Try.func39, Try.ntmps39
    go_wp2_with fail
    go_ret
    exact ⟨rfl, hb2⟩
  · have hab : (a.kind == 0) = false := by rw [beq_eq_false_iff_ne]; exact ha
    by_cases hb : b.kind = 0
    · have hbb : (b.kind == 0) = true := by rw [beq_iff_eq]; exact hb
      rw [if_pos (.inr hb)]
      clear ha hb
      go_enter Try.func39, Try.ntmps39
      go_wp2_with fail
      go_ret
      exact ⟨rfl, hb2⟩
    · have hbb : (b.kind == 0) = false := by rw [beq_eq_false_iff_ne]; exact hb
      rw [if_neg (by omega)]
      by_cases hc : a.kind = b.kind
      · have hcb : (a.kind != b.kind) = false := by rw [bne_eq_false_iff_eq]; exact hc
        rw [if_neg (by omega)]
        clear ha hb hc
        go_enter Try.func39, Try.ntmps39
        go_wp2_with fail
        go_ret
        exact ⟨rfl, hb2⟩
      · have hcb : (a.kind != b.kind) = true := by rw [bne_iff_ne]; exact hc
        rw [if_pos hc]
        clear ha hb hc
        go_enter Try.func39, Try.ntmps39
        go_wp2_with fail
        go_ret
        exact ⟨rfl, hb2⟩
/-- two nodes in their boxes -/
def Nodes2 (w : World) (a b : Nd) (W : World) : Prop := Blk W w.heap.size 66 a.c ∧ Blk W (w.heap.size + 1) 66 b.c ∧ Below w.heap.size w W
theorem Nodes2.keep {w : World} {a b : Nd} (W W' : World) (h : Nodes2 w a b W) (hb : Below W.heap.size W W') : Nodes2 w a b W' := ⟨h.1.below hb h.1.lt, h.2.1.below hb h.2.1.lt, h.2.2.trans (hb.mono h.2.2.size)⟩
set_option maxRecDepth 100000 in
set_option maxHeartbeats 4000000 in
theorem same_any (w : World) (a b : Nd) (ha : a.data.size ≤ maxLen) (hb : b.data.size ≤ maxLen) :
    Calls Try.prog 66 #[.agg a.c, .agg b.c] w fun e w' => e = .returned (.bool (decide (printN a = printN b))) ∧ Below w.heap.size w w' := by
  have hA := fun W => print_any W a ha
  have hB := fun W => print_any W b hb
  have hEQ := fun W => eq_print (printN a) (printN b) W
  have hB0 : Nodes2 w a b ((w.alloc (.cells a.c 66)).alloc (.cells b.c 66)) := ⟨blk_fst _ _ _ _, blk_snd _ _ _ _, ((Below.refl _ _).alloc (Nat.le_refl _) _).alloc (by simp) _⟩
  have HB0 := Lib.hid hB0; clear hB0
  generalize printN a = p at *
  generalize printN b = q at *
  generalize decide (p = q) = r at *
  have q0 : ∀ x : Held (Nodes2 w a b), (HeldW x).cell? ⟨w.heap.size, 0, none⟩ = some (.int .i64 a.kind) := fun x => ((HeldW_spec x).1).cell 0
  have q1 : ∀ x : Held (Nodes2 w a b), (HeldW x).cell? ⟨w.heap.size, 1, none⟩ = some (.int .i64 a.mode) := fun x => ((HeldW_spec x).1).cell 1
  have q2 : ∀ x : Held (Nodes2 w a b), (HeldW x).cell? ⟨w.heap.size, 2, none⟩ = some (.int .u32 a.time) := fun x => ((HeldW_spec x).1).cell 2
  have q3 : ∀ x : Held (Nodes2 w a b), (HeldW x).cell? ⟨w.heap.size, 3, none⟩ = some (.string a.data) := fun x => ((HeldW_spec x).1).cell 3
  have n0 : ∀ x : Held (Nodes2 w a b), (HeldW x).cell? ⟨w.heap.size + 1, 0, none⟩ = some (.int .i64 b.kind) := fun x => ((HeldW_spec x).2.1).cell 0
  have n1 : ∀ x : Held (Nodes2 w a b), (HeldW x).cell? ⟨w.heap.size + 1, 1, none⟩ = some (.int .i64 b.mode) := fun x => ((HeldW_spec x).2.1).cell 1
  have n2 : ∀ x : Held (Nodes2 w a b), (HeldW x).cell? ⟨w.heap.size + 1, 2, none⟩ = some (.int .u32 b.time) := fun x => ((HeldW_spec x).2.1).cell 2
  have n3 : ∀ x : Held (Nodes2 w a b), (HeldW x).cell? ⟨w.heap.size + 1, 3, none⟩ = some (.string b.data) := fun x => ((HeldW_spec x).2.1).cell 3
  haveI : Nonempty (Held (Nodes2 w a b)) := held_some HB0.out
  unfold Nd.c Pr.c at *
  have HA := Lib.hid hA; clear hA
  have HB := Lib.hid hB; clear hB
  go_enter Try.func66, Try.ntmps66
  go_wp2_with fail
  refine wp_region_class (Nodes2 w a b) (by kernel_rfl) (by kernel_rfl) (by have h := HB0.out; exact ⟨h.1, h.2.1, h.2.2.drew⟩) ?_
  repeat (go_big_quiet_step (first | with_reducible exact held_below Nodes2.keep (HA.out _) | with_reducible exact held_below Nodes2.keep (HB.out _)))
  refine wpQuiet_nil ?_
  rintro _ ⟨nn, rfl⟩
  go_wp2_with fail
  go_ret
  exact ⟨rfl, (HeldW_spec nn).2.2⟩
set_option maxRecDepth 100000 in
set_option maxHeartbeats 4000000 in
theorem still_any (w : World) (g h : Nat) (was : Pr) (had : Bool) (n : Nd) (hm : n.data.size ≤ maxLen) (hg : Blk w g 64 was.c) (hh : Blk w h 4 #[.bool had]) :
    Calls Try.prog 65 #[.agg n.c, .pointer (some ⟨g, 0, none⟩), .pointer (some ⟨h, 0, none⟩)] w fun e w' => e = .returned (.bool (decide (stateN was had n = 0))) ∧ Below w.heap.size w w' := by
  have hst := fun W => state_any W was had n hm
  generalize stateN was had n = st at *
  have hlg := hg.lt
  have hlh := hh.lt
  have q0 := hg.cell 0
  have q1 := hg.cell 1
  have q2 := hg.cell 2
  have q3 := hg.cell 3
  have q4 := hg.cell 4
  have h0 := hh.cell 0
  unfold Pr.c at q0 q1 q2 q3 q4
  simp at q0 q1 q2 q3 q4 h0
  unfold Nd.c Pr.c at *
  have hng : g ≠ w.heap.size := by omega
  have hnh : h ≠ w.heap.size := by omega
  clear hg hh
  have HST := Lib.hid hst; clear hst
  by_cases hz : st = 0
  · have hzb : (st == 0) = true := by rw [beq_iff_eq]; exact hz
    rw [decide_eq_true hz]
    clear hz
    go_enter Try.func65, Try.ntmps65
    go_wp2_with fail
    refine (HST.out _).mono ?_
    rintro e w1 ⟨rfl, hb1⟩
    go_wp2_with fail
    go_ret
    exact ⟨rfl, ((Below.refl _ _).alloc (Nat.le_refl _) _).trans (hb1.mono (by simp))⟩
  · have hzb : (st == 0) = false := by rw [beq_eq_false_iff_ne]; exact hz
    rw [decide_eq_false hz]
    clear hz
    go_enter Try.func65, Try.ntmps65
    go_wp2_with fail
    refine (HST.out _).mono ?_
    rintro e w1 ⟨rfl, hb1⟩
    go_wp2_with fail
    go_ret
    exact ⟨rfl, ((Below.refl _ _).alloc (Nat.le_refl _) _).trans (hb1.mono (by simp))⟩
end Go.Proofs.Ytpnkgldpmalklaa
