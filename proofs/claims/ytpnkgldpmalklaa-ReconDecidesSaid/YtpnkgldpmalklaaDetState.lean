/- Contracts of detect.State and of the reference's State. -/
import Derived.Test.YtpnkgldpmalklaaNodePrint
import Derived.Test.YtpnkgldpmalklaaHeld
set_option linter.unusedVariables false
set_option linter.unusedSimpArgs false
namespace Sw
open Go
theorem Pr.ext_c (p q : Pr) : p = q ↔ p.kind = q.kind ∧ p.mode = q.mode ∧ p.time = q.time ∧ p.size = q.size ∧ p.sum = q.sum := by
  obtain ⟨a, b, c, d, e⟩ := p
  obtain ⟨a', b', c', d', e'⟩ := q
  simp
instance : DecidableEq Pr := fun p q => decidable_of_iff' _ (Pr.ext_c p q)
/-- what became of a node since a print -/
def stateN (was : Pr) (had : Bool) (n : Nd) : Int :=
  if had = false then (if n.kind = 0 then 0 else 1) else if was = printN n then 0 else if n.kind = 0 then 3 else 2
end Sw
namespace Go.Proofs.Ytpnkgldpmalklaa
open Go.RowKit
open Sw
/-- the two boxes -/
def Boxes (w : World) (was : Pr) (n : Nd) (W : World) : Prop := Blk W w.heap.size 64 was.c ∧ Blk W (w.heap.size + 1) 66 n.c ∧ Below w.heap.size w W
theorem Boxes.keep {w : World} {was : Pr} {n : Nd} (W W' : World) (h : Boxes w was n W) (hb : Below W.heap.size W W') : Boxes w was n W' := ⟨h.1.below hb h.1.lt, h.2.1.below hb h.2.1.lt, h.2.2.trans (hb.mono h.2.2.size)⟩
set_option maxRecDepth 100000 in
set_option maxHeartbeats 4000000 in
theorem state_any (w : World) (was : Pr) (had : Bool) (n : Nd) (hm : n.data.size ≤ maxLen) :
    Calls Try.prog 32 #[.agg was.c, .bool had, .agg n.c] w fun e w' => e = .returned (.int .i64 (stateN was had n)) ∧ Below w.heap.size w w' := by
  have HP := Lib.hid (fun W => print_any W n hm)
  have hs : stateN was had n = if had = false then (if n.kind = 0 then 0 else 1) else if was = printN n then 0 else if n.kind = 0 then 3 else 2 := rfl
  have hpe := Pr.ext_c was (printN n)
  generalize printN n = p at *
  have hB0 : Boxes w was n ((w.alloc (.cells was.c 64)).alloc (.cells n.c 66)) := ⟨blk_fst _ _ _ _, blk_snd _ _ _ _, ((Below.refl _ _).alloc (Nat.le_refl _) _).alloc (by simp) _⟩
  have HB0 := Lib.hid hB0; clear hB0
  have q0 : ∀ x : Held (Boxes w was n), (HeldW x).cell? ⟨w.heap.size, 0, none⟩ = some (.int .i64 was.kind) := fun x => (HeldW_spec x).1.cell 0
  have q1 : ∀ x : Held (Boxes w was n), (HeldW x).cell? ⟨w.heap.size, 1, none⟩ = some (.int .i64 was.mode) := fun x => (HeldW_spec x).1.cell 1
  have q2 : ∀ x : Held (Boxes w was n), (HeldW x).cell? ⟨w.heap.size, 2, none⟩ = some (.int .u32 was.time) := fun x => (HeldW_spec x).1.cell 2
  have q3 : ∀ x : Held (Boxes w was n), (HeldW x).cell? ⟨w.heap.size, 3, none⟩ = some (.int .i64 was.size) := fun x => (HeldW_spec x).1.cell 3
  have q4 : ∀ x : Held (Boxes w was n), (HeldW x).cell? ⟨w.heap.size, 4, none⟩ = some (.int .u32 was.sum) := fun x => (HeldW_spec x).1.cell 4
  have n0 : ∀ x : Held (Boxes w was n), (HeldW x).cell? ⟨w.heap.size + 1, 0, none⟩ = some (.int .i64 n.kind) := fun x => (HeldW_spec x).2.1.cell 0
  have n1 : ∀ x : Held (Boxes w was n), (HeldW x).cell? ⟨w.heap.size + 1, 1, none⟩ = some (.int .i64 n.mode) := fun x => (HeldW_spec x).2.1.cell 1
  have n2 : ∀ x : Held (Boxes w was n), (HeldW x).cell? ⟨w.heap.size + 1, 2, none⟩ = some (.int .u32 n.time) := fun x => (HeldW_spec x).2.1.cell 2
  have n3 : ∀ x : Held (Boxes w was n), (HeldW x).cell? ⟨w.heap.size + 1, 3, none⟩ = some (.string n.data) := fun x => (HeldW_spec x).2.1.cell 3
  haveI : Nonempty (Held (Boxes w was n)) := held_some HB0.out
  have HPE := Lib.hid hpe; clear hpe
  have HST := Lib.hid hs; clear hs
  cases had with
  | false =>
    by_cases hk : n.kind = 0
    · have hfin : stateN was false n = 0 := by rw [HST.out, if_pos rfl, if_pos hk]
      rw [hfin]
      have hkb : (n.kind != 0) = false := by rw [bne_eq_false_iff_eq]; exact hk
      clear hfin hk
      unfold Pr.c Nd.c at *
      go_enter Try.func32, Try.ntmps32
      go_wp2_with fail
      go_quiet (fail)
      go_wp2_with fail
      go_ret
      exact ⟨rfl, below_drewN HB0.out.2.2 _⟩
    · have hfin : stateN was false n = 1 := by rw [HST.out, if_pos rfl, if_neg hk]
      rw [hfin]
      have hkb : (n.kind != 0) = true := by rw [bne_iff_ne]; exact hk
      clear hfin hk
      unfold Pr.c Nd.c at *
      go_enter Try.func32, Try.ntmps32
      go_wp2_with fail
      go_quiet (fail)
      go_wp2_with fail
      go_ret
      exact ⟨rfl, below_drewN HB0.out.2.2 _⟩
  | true =>
    by_cases hp : was = p
    · have hfin : stateN was true n = 0 := by rw [HST.out, if_neg (by simp), if_pos hp]
      rw [hfin]
      subst hp
      clear hfin HST HPE
      unfold Pr.c Nd.c at *
      go_enter Try.func32, Try.ntmps32
      go_wp2_with fail
      refine wp_region_class (Boxes w was n) (by kernel_rfl) (by kernel_rfl) (by have h := HB0.out; exact ⟨h.1, h.2.1, h.2.2.drew⟩) ?_
      repeat (go_big_quiet_step (with_reducible exact held_below Boxes.keep (HP.out _)))
      refine wpQuiet_nil ?_
      rintro _ ⟨nn, rfl⟩
      go_wp2_with fail
      go_ret
      exact ⟨rfl, (HeldW_spec nn).2.2⟩
    · have hd := HPE.out
      have hor : was.kind ≠ p.kind ∨ (was.kind = p.kind ∧ was.mode ≠ p.mode) ∨ (was.kind = p.kind ∧ was.mode = p.mode ∧ was.time ≠ p.time) ∨ (was.kind = p.kind ∧ was.mode = p.mode ∧ was.time = p.time ∧ was.size ≠ p.size) ∨ (was.kind = p.kind ∧ was.mode = p.mode ∧ was.time = p.time ∧ was.size = p.size ∧ was.sum ≠ p.sum) := by
        rw [hd] at hp
        omega
      clear hd
      obtain ⟨k2, m2, t2, z2, u2⟩ := p
      simp only at hor
      unfold Pr.c Nd.c at *
      by_cases hk : n.kind = 0
      · have hfin : stateN was true n = 3 := by rw [HST.out, if_neg (by simp), if_neg hp, if_pos hk]
        rw [hfin]
        have hkb : (n.kind != 0) = false := by rw [bne_eq_false_iff_eq]; exact hk
        clear hfin hk HST HPE hp
        rcases hor with h | ⟨rfl, h⟩ | ⟨rfl, rfl, h⟩ | ⟨rfl, rfl, rfl, h⟩ | ⟨rfl, rfl, rfl, rfl, h⟩
        all_goals
          have hb := beq_eq_false_iff_ne.2 h
          clear h
          go_enter Try.func32, Try.ntmps32
          go_wp2_with fail
          refine wp_region_class (Boxes w was n) (by kernel_rfl) (by kernel_rfl) (by have h := HB0.out; exact ⟨h.1, h.2.1, h.2.2.drew⟩) ?_
          repeat (go_big_quiet_step (with_reducible exact held_below Boxes.keep (HP.out _)))
          refine wpQuiet_nil ?_
          rintro _ ⟨nn, rfl⟩
          go_wp2_with fail
          go_ret
          exact ⟨rfl, (HeldW_spec nn).2.2⟩
      · have hfin : stateN was true n = 2 := by rw [HST.out, if_neg (by simp), if_neg hp, if_neg hk]
        rw [hfin]
        have hkb : (n.kind != 0) = true := by rw [bne_iff_ne]; exact hk
        clear hfin hk HST HPE hp
        rcases hor with h | ⟨rfl, h⟩ | ⟨rfl, rfl, h⟩ | ⟨rfl, rfl, rfl, h⟩ | ⟨rfl, rfl, rfl, rfl, h⟩
        all_goals
          have hb := beq_eq_false_iff_ne.2 h
          clear h
          go_enter Try.func32, Try.ntmps32
          go_wp2_with fail
          refine wp_region_class (Boxes w was n) (by kernel_rfl) (by kernel_rfl) (by have h := HB0.out; exact ⟨h.1, h.2.1, h.2.2.drew⟩) ?_
          repeat (go_big_quiet_step (with_reducible exact held_below Boxes.keep (HP.out _)))
          refine wpQuiet_nil ?_
          rintro _ ⟨nn, rfl⟩
          go_wp2_with fail
          go_ret
          exact ⟨rfl, (HeldW_spec nn).2.2⟩
set_option maxRecDepth 100000 in
set_option maxHeartbeats 4000000 in
theorem refState_any (w : World) (was : Pr) (had : Bool) (n : Nd) (hm : n.data.size ≤ maxLen) :
    Calls Try.prog 33 #[.agg was.c, .bool had, .agg n.c] w fun e w' => e = .returned (.int .i64 (stateN was had n)) ∧ Below w.heap.size w w' := by
  have HP := Lib.hid (fun W => refPrint_any W n hm)
  have hs : stateN was had n = if had = false then (if n.kind = 0 then 0 else 1) else if was = printN n then 0 else if n.kind = 0 then 3 else 2 := rfl
  have hpe := Pr.ext_c was (printN n)
  generalize printN n = p at *
  have hB0 : Boxes w was n ((w.alloc (.cells was.c 64)).alloc (.cells n.c 66)) := ⟨blk_fst _ _ _ _, blk_snd _ _ _ _, ((Below.refl _ _).alloc (Nat.le_refl _) _).alloc (by simp) _⟩
  have HB0 := Lib.hid hB0; clear hB0
  have q0 : ∀ x : Held (Boxes w was n), (HeldW x).cell? ⟨w.heap.size, 0, none⟩ = some (.int .i64 was.kind) := fun x => (HeldW_spec x).1.cell 0
  have q1 : ∀ x : Held (Boxes w was n), (HeldW x).cell? ⟨w.heap.size, 1, none⟩ = some (.int .i64 was.mode) := fun x => (HeldW_spec x).1.cell 1
  have q2 : ∀ x : Held (Boxes w was n), (HeldW x).cell? ⟨w.heap.size, 2, none⟩ = some (.int .u32 was.time) := fun x => (HeldW_spec x).1.cell 2
  have q3 : ∀ x : Held (Boxes w was n), (HeldW x).cell? ⟨w.heap.size, 3, none⟩ = some (.int .i64 was.size) := fun x => (HeldW_spec x).1.cell 3
  have q4 : ∀ x : Held (Boxes w was n), (HeldW x).cell? ⟨w.heap.size, 4, none⟩ = some (.int .u32 was.sum) := fun x => (HeldW_spec x).1.cell 4
  have n0 : ∀ x : Held (Boxes w was n), (HeldW x).cell? ⟨w.heap.size + 1, 0, none⟩ = some (.int .i64 n.kind) := fun x => (HeldW_spec x).2.1.cell 0
  have n1 : ∀ x : Held (Boxes w was n), (HeldW x).cell? ⟨w.heap.size + 1, 1, none⟩ = some (.int .i64 n.mode) := fun x => (HeldW_spec x).2.1.cell 1
  have n2 : ∀ x : Held (Boxes w was n), (HeldW x).cell? ⟨w.heap.size + 1, 2, none⟩ = some (.int .u32 n.time) := fun x => (HeldW_spec x).2.1.cell 2
  have n3 : ∀ x : Held (Boxes w was n), (HeldW x).cell? ⟨w.heap.size + 1, 3, none⟩ = some (.string n.data) := fun x => (HeldW_spec x).2.1.cell 3
  haveI : Nonempty (Held (Boxes w was n)) := held_some HB0.out
  have HPE := Lib.hid hpe; clear hpe
  have HST := Lib.hid hs; clear hs
  cases had with
  | false =>
    by_cases hk : n.kind = 0
    · have hfin : stateN was false n = 0 := by rw [HST.out, if_pos rfl, if_pos hk]
      rw [hfin]
      have hkb : (n.kind == 0) = true := by rw [beq_iff_eq]; exact hk
      clear hfin hk
      unfold Pr.c Nd.c at *
      go_enter Try.func33, Try.ntmps33
      go_wp2_with fail
      go_ret
      exact ⟨rfl, HB0.out.2.2⟩
    · have hfin : stateN was false n = 1 := by rw [HST.out, if_pos rfl, if_neg hk]
      rw [hfin]
      have hkb : (n.kind == 0) = false := by rw [beq_eq_false_iff_ne]; exact hk
      clear hfin hk
      unfold Pr.c Nd.c at *
      go_enter Try.func33, Try.ntmps33
      go_wp2_with fail
      go_ret
      exact ⟨rfl, HB0.out.2.2⟩
  | true =>
    by_cases hp : was = p
    · have hfin : stateN was true n = 0 := by rw [HST.out, if_neg (by simp), if_pos hp]
      rw [hfin]
      subst hp
      clear hfin HST HPE
      unfold Pr.c Nd.c at *
      go_enter Try.func33, Try.ntmps33
      go_wp2_with fail
      refine wp_region_class (Boxes w was n) (by kernel_rfl) (by kernel_rfl) (by have h := HB0.out; exact ⟨h.1, h.2.1, h.2.2.drew⟩) ?_
      repeat (go_big_quiet_step (with_reducible exact held_below Boxes.keep (HP.out _)))
      refine wpQuiet_nil ?_
      rintro _ ⟨nn, rfl⟩
      go_wp2_with fail
      go_ret
      exact ⟨rfl, (HeldW_spec nn).2.2⟩
    · have hd := HPE.out
      have hor : was.kind ≠ p.kind ∨ (was.kind = p.kind ∧ was.mode ≠ p.mode) ∨ (was.kind = p.kind ∧ was.mode = p.mode ∧ was.time ≠ p.time) ∨ (was.kind = p.kind ∧ was.mode = p.mode ∧ was.time = p.time ∧ was.size ≠ p.size) ∨ (was.kind = p.kind ∧ was.mode = p.mode ∧ was.time = p.time ∧ was.size = p.size ∧ was.sum ≠ p.sum) := by
        rw [hd] at hp
        omega
      clear hd
      obtain ⟨k2, m2, t2, z2, u2⟩ := p
      simp only at hor
      unfold Pr.c Nd.c at *
      by_cases hk : n.kind = 0
      · have hfin : stateN was true n = 3 := by rw [HST.out, if_neg (by simp), if_neg hp, if_pos hk]
        rw [hfin]
        have hkb : (n.kind == 0) = true := by rw [beq_iff_eq]; exact hk
        clear hfin hk HST HPE hp
        rcases hor with h | ⟨rfl, h⟩ | ⟨rfl, rfl, h⟩ | ⟨rfl, rfl, rfl, h⟩ | ⟨rfl, rfl, rfl, rfl, h⟩
        all_goals
          have hb := beq_eq_false_iff_ne.2 h
          clear h
          go_enter Try.func33, Try.ntmps33
          go_wp2_with fail
          refine wp_region_class (Boxes w was n) (by kernel_rfl) (by kernel_rfl) (by have h := HB0.out; exact ⟨h.1, h.2.1, h.2.2.drew⟩) ?_
          repeat (go_big_quiet_step (with_reducible exact held_below Boxes.keep (HP.out _)))
          refine wpQuiet_nil ?_
          rintro _ ⟨nn, rfl⟩
          go_wp2_with fail
          go_ret
          exact ⟨rfl, (HeldW_spec nn).2.2⟩
      · have hfin : stateN was true n = 2 := by rw [HST.out, if_neg (by simp), if_neg hp, if_neg hk]
        rw [hfin]
        have hkb : (n.kind == 0) = false := by rw [beq_eq_false_iff_ne]; exact hk
        clear hfin hk HST HPE hp
        rcases hor with h | ⟨rfl, h⟩ | ⟨rfl, rfl, h⟩ | ⟨rfl, rfl, rfl, h⟩ | ⟨rfl, rfl, rfl, rfl, h⟩
        all_goals
          have hb := beq_eq_false_iff_ne.2 h
          clear h
          go_enter Try.func33, Try.ntmps33
          go_wp2_with fail
          refine wp_region_class (Boxes w was n) (by kernel_rfl) (by kernel_rfl) (by have h := HB0.out; exact ⟨h.1, h.2.1, h.2.2.drew⟩) ?_
          repeat (go_big_quiet_step (with_reducible exact held_below Boxes.keep (HP.out _)))
          refine wpQuiet_nil ?_
          rintro _ ⟨nn, rfl⟩
          go_wp2_with fail
          go_ret
          exact ⟨rfl, (HeldW_spec nn).2.2⟩
end Go.Proofs.Ytpnkgldpmalklaa
