/- Several texts, joined for the limit of sixty files; each one opens with its own comment. -/
import Derived.Test.YteofiffbobbdmaaGreatDoorJoin16
import Derived.Test.YteofiffbobbdmaaGreatDoorJoin5
import Derived.Test.YteofiffbobbdmaaGreatDoorJoin8
import Derived.Test.YteofiffbobbdmaaGreatDoorJoin18
import Derived.Test.YteofiffbobbdmaaGreatDoorJoin17
/- Contracts of detect.State and of the reference's State. -/
set_option linter.unusedVariables false
set_option linter.unusedSimpArgs false
namespace Sw
open Go
theorem Pr.ext_c (p q : Pr) : p = q ↔ p.kind = q.kind ∧ p.mode = q.mode ∧ p.time = q.time ∧ p.size = q.size ∧ p.sum = q.sum := by
  obtain ⟨a, b, c, d, e⟩ := p
  obtain ⟨a', b', c', d', e'⟩ := q
  simp
instance : DecidableEq Pr := fun p q => decidable_of_iff' _ (Pr.ext_c p q)
/-- what became of a node since a print -/
def stateN (was : Pr) (had : Bool) (n : Nd) : Int :=
  if had = false then (if n.kind = 0 then 0 else 1) else if was = printN n then 0 else if n.kind = 0 then 3 else 2
end Sw
namespace Go.Proofs.YteofiffbobbdmaaGreatDoor
open Go.RowKit
open Sw
/-- the two boxes -/
def Boxes (w : World) (was : Pr) (n : Nd) (W : World) : Prop := Blk W w.heap.size 75 was.c ∧ Blk W (w.heap.size + 1) 51 n.c ∧ Below w.heap.size w W
theorem Boxes.keep {w : World} {was : Pr} {n : Nd} (W W' : World) (h : Boxes w was n W) (hb : Below W.heap.size W W') : Boxes w was n W' := ⟨h.1.below hb h.1.lt, h.2.1.below hb h.2.1.lt, h.2.2.trans (hb.mono h.2.2.size)⟩
set_option maxRecDepth 100000 in
set_option maxHeartbeats 4000000 in
theorem state_any (w : World) (was : Pr) (had : Bool) (n : Nd) (hm : n.data.size ≤ maxLen) :
    Calls Tryz.prog 30 #[.agg was.c, .bool had, .agg n.c] w fun e w' => e = .returned (.int .i64 (stateN was had n)) ∧ Below w.heap.size w w' := by
  have HP := Lib.hid (fun W => print_any W n hm)
  have hs : stateN was had n = if had = false then (if n.kind = 0 then 0 else 1) else if was = printN n then 0 else if n.kind = 0 then 3 else 2 := rfl
  have hpe := Pr.ext_c was (printN n)
  generalize printN n = p at *
  have hB0 : Boxes w was n ((w.alloc (.cells was.c 75)).alloc (.cells n.c 51)) := ⟨blk_fst _ _ _ _, blk_snd _ _ _ _, ((Below.refl _ _).alloc (Nat.le_refl _) _).alloc (by simp) _⟩
  have HB0 := Lib.hid hB0; clear hB0
  have q0 : ∀ x : Held (Boxes w was n), (HeldW x).cell? ⟨w.heap.size, 0, none⟩ = some (.int .i64 was.kind) := fun x => (HeldW_spec x).1.cell 0
  have q1 : ∀ x : Held (Boxes w was n), (HeldW x).cell? ⟨w.heap.size, 1, none⟩ = some (.int .i64 was.mode) := fun x => (HeldW_spec x).1.cell 1
  have q2 : ∀ x : Held (Boxes w was n), (HeldW x).cell? ⟨w.heap.size, 2, none⟩ = some (.int .u32 was.time) := fun x => (HeldW_spec x).1.cell 2
  have q3 : ∀ x : Held (Boxes w was n), (HeldW x).cell? ⟨w.heap.size, 3, none⟩ = some (.int .i64 was.size) := fun x => (HeldW_spec x).1.cell 3
  have q4 : ∀ x : Held (Boxes w was n), (HeldW x).cell? ⟨w.heap.size, 4, none⟩ = some (.int .u32 was.sum) := fun x => (HeldW_spec x).1.cell 4
  have n0 : ∀ x : Held (Boxes w was n), (HeldW x).cell? ⟨w.heap.size + 1, 0, none⟩ = some (.int .i64 n.kind) := fun x => (HeldW_spec x).2.1.cell 0
  have n1 : ∀ x : Held (Boxes w was n), (HeldW x).cell? ⟨w.heap.size + 1, 1, none⟩ = some (.int .i64 n.mode) := fun x => (HeldW_spec x).2.1.cell 1
  have n2 : ∀ x : Held (Boxes w was n), (HeldW x).cell? ⟨w.heap.size + 1, 2, none⟩ = some (.int .u32 n.time) := fun x => (HeldW_spec x).2.1.cell 2
  have n3 : ∀ x : Held (Boxes w was n), (HeldW x).cell? ⟨w.heap.size + 1, 3, none⟩ = some (.string n.data) := fun x => (HeldW_spec x).2.1.cell 3
  haveI : Nonempty (Held (Boxes w was n)) := held_some HB0.out
  have HPE := Lib.hid hpe; clear hpe
  have HST := Lib.hid hs; clear hs
  cases had with
  | false =>
    by_cases hk : n.kind = 0
    · have hfin : stateN was false n = 0 := by rw [HST.out, if_pos rfl, if_pos hk]
      rw [hfin]
      have hkb : (n.kind != 0) = false := by rw [bne_eq_false_iff_eq]; exact hk
      clear hfin hk
      unfold Pr.c Nd.c at *
      go_enter Tryz.func30, Tryz.ntmps30
      go_wp2_with fail
      go_quiet (fail)
      go_wp2_with fail
      go_ret
      exact ⟨rfl, below_drewN HB0.out.2.2 _⟩
    · have hfin : stateN was false n = 1 := by rw [HST.out, if_pos rfl, if_neg hk]
      rw [hfin]
      have hkb : (n.kind != 0) = true := by rw [bne_iff_ne]; exact hk
      clear hfin hk
      unfold Pr.c Nd.c at *
      go_enter Tryz.func30, Tryz.ntmps30
      go_wp2_with fail
      go_quiet (fail)
      go_wp2_with fail
      go_ret
      exact ⟨rfl, below_drewN HB0.out.2.2 _⟩
  | true =>
    by_cases hp : was = p
    · have hfin : stateN was true n = 0 := by rw [HST.out, if_neg (by simp), if_pos hp]
      rw [hfin]
      subst hp
      clear hfin HST HPE
      unfold Pr.c Nd.c at *
      go_enter Tryz.func30, Tryz.ntmps30
      go_wp2_with fail
      refine wp_region_class (Boxes w was n) (by kernel_rfl) (by kernel_rfl) (by have h := HB0.out; exact ⟨h.1, h.2.1, h.2.2.drew⟩) ?_
      repeat (go_big_quiet_step (with_reducible exact held_below Boxes.keep (HP.out _)))
      refine wpQuiet_nil ?_
      rintro _ ⟨nn, rfl⟩
      go_wp2_with fail
      go_ret
      exact ⟨rfl, (HeldW_spec nn).2.2⟩
    · have hd := HPE.out
      have hor : was.kind ≠ p.kind ∨ (was.kind = p.kind ∧ was.mode ≠ p.mode) ∨ (was.kind = p.kind ∧ was.mode = p.mode ∧ was.time ≠ p.time) ∨ (was.kind = p.kind ∧ was.mode = p.mode ∧ was.time = p.time ∧ was.size ≠ p.size) ∨ (was.kind = p.kind ∧ was.mode = p.mode ∧ was.time = p.time ∧ was.size = p.size ∧ was.sum ≠ p.sum) := by
        rw [hd] at hp
        omega
      clear hd
      obtain ⟨k2, m2, t2, z2, u2⟩ := p
      simp only at hor
      unfold Pr.c Nd.c at *
      by_cases hk : n.kind = 0
      · have hfin : stateN was true n = 3 := by rw [HST.out, if_neg (by simp), if_neg hp, if_pos hk]
        rw [hfin]
        have hkb : (n.kind != 0) = false := by rw [bne_eq_false_iff_eq]; exact hk
        clear hfin hk HST HPE hp
        rcases hor with h | ⟨rfl, h⟩ | ⟨rfl, rfl, h⟩ | ⟨rfl, rfl, rfl, h⟩ | ⟨rfl, rfl, rfl, rfl, h⟩
        all_goals
          have hb := beq_eq_false_iff_ne.2 h
          clear h
          go_enter Tryz.func30, Tryz.ntmps30
          go_wp2_with fail
          refine wp_region_class (Boxes w was n) (by kernel_rfl) (by kernel_rfl) (by have h := HB0.out; exact ⟨h.1, h.2.1, h.2.2.drew⟩) ?_
          repeat (go_big_quiet_step (with_reducible exact held_below Boxes.keep (HP.out _)))
          refine wpQuiet_nil ?_
          rintro _ ⟨nn, rfl⟩
          go_wp2_with fail
          go_ret
          exact ⟨rfl, (HeldW_spec nn).2.2⟩
      · have hfin : stateN was true n = 2 := by rw [HST.out, if_neg (by simp), if_neg hp, if_neg hk]
        rw [hfin]
        have hkb : (n.kind != 0) = true := by rw [bne_iff_ne]; exact hk
        clear hfin hk HST HPE hp
        rcases hor with h | ⟨rfl, h⟩ | ⟨rfl, rfl, h⟩ | ⟨rfl, rfl, rfl, h⟩ | ⟨rfl, rfl, rfl, rfl, h⟩
        all_goals
          have hb := beq_eq_false_iff_ne.2 h
          clear h
          go_enter Tryz.func30, Tryz.ntmps30
          go_wp2_with fail
          refine wp_region_class (Boxes w was n) (by kernel_rfl) (by kernel_rfl) (by have h := HB0.out; exact ⟨h.1, h.2.1, h.2.2.drew⟩) ?_
          repeat (go_big_quiet_step (with_reducible exact held_below Boxes.keep (HP.out _)))
          refine wpQuiet_nil ?_
          rintro _ ⟨nn, rfl⟩
          go_wp2_with fail
          go_ret
          exact ⟨rfl, (HeldW_spec nn).2.2⟩
set_option maxRecDepth 100000 in
set_option maxHeartbeats 4000000 in
theorem refState_any (w : World) (was : Pr) (had : Bool) (n : Nd) (hm : n.data.size ≤ maxLen) :
    Calls Tryz.prog 35 #[.agg was.c, .bool had, .agg n.c] w fun e w' => e = .returned (.int .i64 (stateN was had n)) ∧ Below w.heap.size w w' := by
  have HP := Lib.hid (fun W => refPrint_any W n hm)
  have hs : stateN was had n = if had = false then (if n.kind = 0 then 0 else 1) else if was = printN n then 0 else if n.kind = 0 then 3 else 2 := rfl
  have hpe := Pr.ext_c was (printN n)
  generalize printN n = p at *
  have hB0 : Boxes w was n ((w.alloc (.cells was.c 75)).alloc (.cells n.c 51)) := ⟨blk_fst _ _ _ _, blk_snd _ _ _ _, ((Below.refl _ _).alloc (Nat.le_refl _) _).alloc (by simp) _⟩
  have HB0 := Lib.hid hB0; clear hB0
  have q0 : ∀ x : Held (Boxes w was n), (HeldW x).cell? ⟨w.heap.size, 0, none⟩ = some (.int .i64 was.kind) := fun x => (HeldW_spec x).1.cell 0
  have q1 : ∀ x : Held (Boxes w was n), (HeldW x).cell? ⟨w.heap.size, 1, none⟩ = some (.int .i64 was.mode) := fun x => (HeldW_spec x).1.cell 1
  have q2 : ∀ x : Held (Boxes w was n), (HeldW x).cell? ⟨w.heap.size, 2, none⟩ = some (.int .u32 was.time) := fun x => (HeldW_spec x).1.cell 2
  have q3 : ∀ x : Held (Boxes w was n), (HeldW x).cell? ⟨w.heap.size, 3, none⟩ = some (.int .i64 was.size) := fun x => (HeldW_spec x).1.cell 3
  have q4 : ∀ x : Held (Boxes w was n), (HeldW x).cell? ⟨w.heap.size, 4, none⟩ = some (.int .u32 was.sum) := fun x => (HeldW_spec x).1.cell 4
  have n0 : ∀ x : Held (Boxes w was n), (HeldW x).cell? ⟨w.heap.size + 1, 0, none⟩ = some (.int .i64 n.kind) := fun x => (HeldW_spec x).2.1.cell 0
  have n1 : ∀ x : Held (Boxes w was n), (HeldW x).cell? ⟨w.heap.size + 1, 1, none⟩ = some (.int .i64 n.mode) := fun x => (HeldW_spec x).2.1.cell 1
  have n2 : ∀ x : Held (Boxes w was n), (HeldW x).cell? ⟨w.heap.size + 1, 2, none⟩ = some (.int .u32 n.time) := fun x => (HeldW_spec x).2.1.cell 2
  have n3 : ∀ x : Held (Boxes w was n), (HeldW x).cell? ⟨w.heap.size + 1, 3, none⟩ = some (.string n.data) := fun x => (HeldW_spec x).2.1.cell 3
  haveI : Nonempty (Held (Boxes w was n)) := held_some HB0.out
  have HPE := Lib.hid hpe; clear hpe
  have HST := Lib.hid hs; clear hs
  cases had with
  | false =>
    by_cases hk : n.kind = 0
    · have hfin : stateN was false n = 0 := by rw [HST.out, if_pos rfl, if_pos hk]
      rw [hfin]
      have hkb : (n.kind == 0) = true := by rw [beq_iff_eq]; exact hk
      clear hfin hk
      unfold Pr.c Nd.c at *
      go_enter Tryz.func35, Tryz.ntmps35
      go_wp2_with fail
      go_ret
      exact ⟨rfl, HB0.out.2.2⟩
    · have hfin : stateN was false n = 1 := by rw [HST.out, if_pos rfl, if_neg hk]
      rw [hfin]
      have hkb : (n.kind == 0) = false := by rw [beq_eq_false_iff_ne]; exact hk
      clear hfin hk
      unfold Pr.c Nd.c at *
      go_enter Tryz.func35, Tryz.ntmps35
      go_wp2_with fail
      go_ret
      exact ⟨rfl, HB0.out.2.2⟩
  | true =>
    by_cases hp : was = p
    · have hfin : stateN was true n = 0 := by rw [HST.out, if_neg (by simp), if_pos hp]
      rw [hfin]
      subst hp
      clear hfin HST HPE
      unfold Pr.c Nd.c at *
      go_enter Tryz.func35, Tryz.ntmps35
      go_wp2_with fail
      refine wp_region_class (Boxes w was n) (by kernel_rfl) (by kernel_rfl) (by have h := HB0.out; exact ⟨h.1, h.2.1, h.2.2.drew⟩) ?_
      repeat (go_big_quiet_step (with_reducible exact held_below Boxes.keep (HP.out _)))
      refine wpQuiet_nil ?_
      rintro _ ⟨nn, rfl⟩
      go_wp2_with fail
      go_ret
      exact ⟨rfl, (HeldW_spec nn).2.2⟩
    · have hd := HPE.out
      have hor : was.kind ≠ p.kind ∨ (was.kind = p.kind ∧ was.mode ≠ p.mode) ∨ (was.kind = p.kind ∧ was.mode = p.mode ∧ was.time ≠ p.time) ∨ (was.kind = p.kind ∧ was.mode = p.mode ∧ was.time = p.time ∧ was.size ≠ p.size) ∨ (was.kind = p.kind ∧ was.mode = p.mode ∧ was.time = p.time ∧ was.size = p.size ∧ was.sum ≠ p.sum) := by
        rw [hd] at hp
        omega
      clear hd
      obtain ⟨k2, m2, t2, z2, u2⟩ := p
      simp only at hor
      unfold Pr.c Nd.c at *
      by_cases hk : n.kind = 0
      · have hfin : stateN was true n = 3 := by rw [HST.out, if_neg (by simp), if_neg hp, if_pos hk]
        rw [hfin]
        have hkb : (n.kind == 0) = true := by rw [beq_iff_eq]; exact hk
        clear hfin hk HST HPE hp
        rcases hor with h | ⟨rfl, h⟩ | ⟨rfl, rfl, h⟩ | ⟨rfl, rfl, rfl, h⟩ | ⟨rfl, rfl, rfl, rfl, h⟩
        all_goals
          have hb := beq_eq_false_iff_ne.2 h
          clear h
          go_enter Tryz.func35, Tryz.ntmps35
          go_wp2_with fail
          refine wp_region_class (Boxes w was n) (by kernel_rfl) (by kernel_rfl) (by have h := HB0.out; exact ⟨h.1, h.2.1, h.2.2.drew⟩) ?_
          repeat (go_big_quiet_step (with_reducible exact held_below Boxes.keep (HP.out _)))
          refine wpQuiet_nil ?_
          rintro _ ⟨nn, rfl⟩
          go_wp2_with fail
          go_ret
          exact ⟨rfl, (HeldW_spec nn).2.2⟩
      · have hfin : stateN was true n = 2 := by rw [HST.out, if_neg (by simp), if_neg hp, if_neg hk]
        rw [hfin]
        have hkb : (n.kind == 0) = false := by rw [beq_eq_false_iff_ne]; exact hk
        clear hfin hk HST HPE hp
        rcases hor with h | ⟨rfl, h⟩ | ⟨rfl, rfl, h⟩ | ⟨rfl, rfl, rfl, h⟩ | ⟨rfl, rfl, rfl, rfl, h⟩
        all_goals
          have hb := beq_eq_false_iff_ne.2 h
          clear h
          go_enter Tryz.func35, Tryz.ntmps35
          go_wp2_with fail
          refine wp_region_class (Boxes w was n) (by kernel_rfl) (by kernel_rfl) (by have h := HB0.out; exact ⟨h.1, h.2.1, h.2.2.drew⟩) ?_
          repeat (go_big_quiet_step (with_reducible exact held_below Boxes.keep (HP.out _)))
          refine wpQuiet_nil ?_
          rintro _ ⟨nn, rfl⟩
          go_wp2_with fail
          go_ret
          exact ⟨rfl, (HeldW_spec nn).2.2⟩
end Go.Proofs.YteofiffbobbdmaaGreatDoor
/- Detecting, plainly: sets of paths, prints of marks. -/
set_option linter.unusedVariables false
set_option linter.unusedSimpArgs false
namespace Sw
open Go
abbrev MkE := ByteArray × Pr
abbrev SbE := ByteArray × Bool
/-- paths put into a set -/
def setP (X : List SbE) (ps : List ByteArray) : List SbE := ps.foldl (fun X p => putN ordS p true X) X
theorem setP_app (X : List SbE) (a b : List ByteArray) : setP X (a ++ b) = setP (setP X a) b := by unfold setP; rw [List.foldl_append]
theorem setP_step (X : List SbE) (ps : List ByteArray) (i : Nat) (h : i < ps.length) : setP X (ps.take (i + 1)) = putN ordS ps[i] true (setP X (ps.take i)) := by
  rw [List.take_succ_eq_append_getElem h, setP_app]
  rfl
theorem setP_up : ∀ (ps : List ByteArray) (X : List SbE), Up ordS X → Up ordS (setP X ps)
  | [], _, h => h
  | p :: ps, X, h => setP_up ps _ (put_up ordS_ord p true X h)
theorem setP_len : ∀ (ps : List ByteArray) (X : List SbE), (setP X ps).length ≤ X.length + ps.length
  | [], _ => Nat.le_refl _
  | p :: ps, X => by
    have h1 := setP_len ps (putN ordS p true X)
    have h2 := put_len (c := ordS) p true X
    have h3 : (putN ordS p true X).length ≤ X.length + 1 := by rw [h2]; split <;> omega
    simp only [List.length_cons]
    exact Nat.le_trans h1 (by omega)
theorem put_keys (p : ByteArray) (v : Bool) (X : List SbE) (h : Up ordS X) (q : ByteArray) : q ∈ (putN ordS p v X).map Prod.fst ↔ q = p ∨ q ∈ X.map Prod.fst := by
  rw [put_filter ordS_ord p v X h]
  simp only [List.map_append, List.mem_append, List.map_cons, List.mem_cons, List.mem_map, List.mem_filter, decide_eq_true_eq]
  constructor
  · rintro (⟨e, he, rfl⟩ | rfl | ⟨e, he, rfl⟩)
    · exact .inr ⟨e, he.1, rfl⟩
    · exact .inl rfl
    · exact .inr ⟨e, he.1, rfl⟩
  · rintro (rfl | ⟨e, he, rfl⟩)
    · exact .inr (.inl rfl)
    · by_cases h1 : ordS e.1 p < 0
      · exact .inl ⟨e, ⟨he, h1⟩, rfl⟩
      · by_cases h2 : ordS e.1 p = 0
        · exact .inr (.inl (ordS_ord.zero _ _ h2))
        · exact .inr (.inr ⟨e, ⟨he, by omega⟩, rfl⟩)
theorem setP_keys : ∀ (ps : List ByteArray) (X : List SbE), Up ordS X → ∀ q, q ∈ (setP X ps).map Prod.fst ↔ q ∈ ps ∨ q ∈ X.map Prod.fst
  | [], _, _, q => by simp [setP]
  | p :: ps, X, h, q => by
    have h1 := setP_keys ps _ (put_up ordS_ord p true X h) q
    have h2 := put_keys p true X h q
    show q ∈ (setP (putN ordS p true X) ps).map Prod.fst ↔ _
    rw [h1, h2, List.mem_cons]
    constructor
    · rintro (h | h | h)
      · exact .inl (.inr h)
      · exact .inl (.inl h)
      · exact .inr h
    · rintro ((h | h) | h)
      · exact .inr (.inl h)
      · exact .inl h
      · exact .inr (.inr h)
/-- paths that rise -/
def Rise (l : List ByteArray) : Prop := l.Pairwise fun a b => ordS a b < 0
theorem rise_keys {β : Type} {X : List (ByteArray × β)} (h : Up ordS X) : Rise (X.map Prod.fst) := by
  unfold Rise
  rw [List.pairwise_map]
  exact h
theorem rise_ext : ∀ {l m : List ByteArray}, Rise l → Rise m → (∀ q, q ∈ l ↔ q ∈ m) → l = m
  | [], [], _, _, _ => rfl
  | [], b :: m, _, _, h => absurd ((h b).2 (List.mem_cons_self ..)) (by simp)
  | a :: l, [], _, _, h => absurd ((h a).1 (List.mem_cons_self ..)) (by simp)
  | a :: l, b :: m, hl, hm, h => by
    have irr : ∀ x, ¬ ordS x x < 0 := fun x => by have := ordS_ord.self x; omega
    have ha := (List.pairwise_cons.1 hl).1
    have hb := (List.pairwise_cons.1 hm).1
    have hab : a = b := by
      rcases List.mem_cons.1 ((h a).1 (List.mem_cons_self ..)) with e | e
      · exact e
      · rcases List.mem_cons.1 ((h b).2 (List.mem_cons_self ..)) with e2 | e2
        · exact e2.symm
        · exact absurd (ordS_ord.trans _ _ _ (hb a e) (ha b e2)) (irr b)
    subst hab
    rw [rise_ext (List.pairwise_cons.1 hl).2 (List.pairwise_cons.1 hm).2 (fun q => ?_)]
    constructor
    · intro hq
      rcases List.mem_cons.1 ((h q).1 (List.mem_cons_of_mem _ hq)) with e | e
      · subst e; exact absurd (ha _ hq) (irr _)
      · exact e
    · intro hq
      rcases List.mem_cons.1 ((h q).2 (List.mem_cons_of_mem _ hq)) with e | e
      · subst e; exact absurd (hb _ hq) (irr _)
      · exact e
/-- the paths of a row of paths, each once, in order -/
def pathsS (ps : List ByteArray) : List ByteArray := (setP [] ps).map Prod.fst
theorem pathsS_rise (ps : List ByteArray) : Rise (pathsS ps) := rise_keys (setP_up ps [] List.Pairwise.nil)
theorem pathsS_mem (ps : List ByteArray) (q : ByteArray) : q ∈ pathsS ps ↔ q ∈ ps := by
  unfold pathsS
  rw [setP_keys ps [] List.Pairwise.nil]
  simp
theorem pathsS_len (ps : List ByteArray) : (pathsS ps).length ≤ ps.length := by
  unfold pathsS
  rw [List.length_map]
  simpa using setP_len ps []
/-- whatever rises and has the same paths is it -/
theorem pathsS_eq {ps l : List ByteArray} (hl : Rise l) (h : ∀ q, q ∈ l ↔ q ∈ ps) : pathsS ps = l := rise_ext (pathsS_rise ps) hl (fun q => by rw [pathsS_mem, h])
/-- the first print at a path -/
def findM (L : List MkE) (p : ByteArray) : Option Pr := (L.find? fun m => decide (m.1 = p)).map Prod.snd
theorem findM_cons (m : MkE) (L : List MkE) (p : ByteArray) : findM (m :: L) p = if m.1 = p then some m.2 else findM L p := by
  unfold findM
  by_cases h : m.1 = p
  · rw [if_pos h, List.find?_cons_of_pos (by simpa using h)]; rfl
  · rw [if_neg h, List.find?_cons_of_neg (by simpa using h)]
/-- the marks of a tree's row -/
def marksT (xs : List NE) : List MkE := xs.map fun e => (e.1, printN e.2)
/-- what became of a path -/
def ofP (L : List MkE) (xs : List NE) (p : ByteArray) : Int := stateN ((findM L p).getD ⟨0, 0, 0, 0, 0⟩) (findM L p).isSome (getT xs p)
theorem findM_up : ∀ {L : List MkE}, Up ordS L → ∀ {m : MkE}, m ∈ L → findM L m.1 = some m.2
  | [], _, m, h => by cases h
  | a :: L, hu, m, h => by
    rw [findM_cons]
    rcases List.mem_cons.1 h with e | e
    · subst e; rw [if_pos rfl]
    · have h1 := hu.head m e
      have hne : ¬ a.1 = m.1 := fun e' => by rw [e'] at h1; have := ordS_ord.self m.1; omega
      rw [if_neg hne]
      exact findM_up hu.tail e
theorem findM_none {L : List MkE} {p : ByteArray} (h : ∀ m ∈ L, ¬ m.1 = p) : findM L p = none := by
  unfold findM
  rw [List.find?_eq_none.2 (fun m hm => by simpa using h m hm)]
  rfl
theorem marksT_up {xs : List NE} (h : Up ordS xs) : Up ordS (marksT xs) := by
  unfold marksT Up
  rw [List.pairwise_map]
  exact h
theorem marksT_keys (xs : List NE) : (marksT xs).map Prod.fst = xs.map Prod.fst := by
  unfold marksT
  rw [List.map_map]
  rfl
/-- what became of all paths -/
def allP (L : List MkE) (xs : List NE) : List (ByteArray × Int) := (pathsS (L.map Prod.fst ++ xs.map Prod.fst)).map fun p => (p, ofP L xs p)
theorem ofP_self {xs : List NE} (h : TI xs) {e : NE} (he : e ∈ xs) : ofP (marksT xs) xs e.1 = 0 := by
  unfold ofP
  have hm : (e.1, printN e.2) ∈ marksT xs := List.mem_map_of_mem he
  have h1 := findM_up (marksT_up h.up) hm
  dsimp only at h1
  rw [h1, getT_in h.up he]
  unfold stateN
  simp
theorem ofP_nil {xs : List NE} (h : TI xs) {e : NE} (he : e ∈ xs) : ofP [] xs e.1 = 1 := by
  unfold ofP
  rw [show findM [] e.1 = none from rfl, getT_in h.up he]
  unfold stateN
  simp [(h.nod e he).1]
theorem allP_self {xs : List NE} (h : TI xs) : allP (marksT xs) xs = xs.map fun e => (e.1, 0) := by
  unfold allP
  rw [marksT_keys, pathsS_eq (rise_keys h.up) (fun q => by simp), List.map_map]
  exact List.map_congr_left fun e he => by show (e.1, ofP (marksT xs) xs e.1) = _; rw [ofP_self h he]
theorem allP_nil {xs : List NE} (h : TI xs) : allP [] xs = xs.map fun e => (e.1, 1) := by
  unfold allP
  rw [List.map_nil, List.nil_append, pathsS_eq (rise_keys h.up) (fun q => Iff.rfl), List.map_map]
  exact List.map_congr_left fun e he => by show (e.1, ofP [] xs e.1) = _; rw [ofP_nil h he]
theorem dropN_mem {xs : List NE} (hu : Up ordS xs) {p : ByteArray} (e : NE) : e ∈ dropN ordS p xs ↔ e ∈ xs ∧ ¬ e.1 = p := by
  rw [drop_filter ordS_ord p xs hu, List.mem_filter]
  simp [ordS_ord.iff]
/-- with one path dropped, that one is gone -/
theorem allP_drop {xs : List NE} (h : TI xs) {x : NE} (hx : x ∈ xs) : (allP (marksT xs) (dropN ordS x.1 xs)).filter (fun f => !decide (f.2 = 0)) = [(x.1, 3)] := by
  have hu := drop_up ordS_ord x.1 xs h.up
  have hp : pathsS ((marksT xs).map Prod.fst ++ (dropN ordS x.1 xs).map Prod.fst) = xs.map Prod.fst := by
    rw [marksT_keys]
    refine pathsS_eq (rise_keys h.up) fun q => ?_
    rw [List.mem_append]
    refine ⟨.inl, ?_⟩
    rintro (hq | hq)
    · exact hq
    · obtain ⟨e, he, rfl⟩ := List.mem_map.1 hq
      exact List.mem_map_of_mem ((dropN_mem h.up e).1 he).1
  have hof : ∀ e ∈ xs, ofP (marksT xs) (dropN ordS x.1 xs) e.1 = if e.1 = x.1 then 3 else 0 := fun e he => by
    unfold ofP
    have hm : (e.1, printN e.2) ∈ marksT xs := List.mem_map_of_mem he
    have h1 := findM_up (marksT_up h.up) hm
    dsimp only at h1
    rw [h1]
    by_cases hk : e.1 = x.1
    · rw [if_pos hk, getT_out hu (fun d hd => by rw [hk]; exact ((dropN_mem h.up d).1 hd).2)]
      unfold stateN
      have hne : ¬ printN e.2 = printN ndZ := fun e' => (h.nod e he).1 (by have := congrArg Pr.kind e'; simpa [printN, ndZ] using this)
      simp only [Option.isSome_some, Option.getD_some]
      rw [if_neg (by simp), if_neg hne]
      rfl
    · rw [if_neg hk, getT_in hu ((dropN_mem h.up e).2 ⟨he, hk⟩)]
      unfold stateN
      simp
  unfold allP
  rw [hp, List.map_map, List.filter_map]
  have hfe : xs.filter ((fun f : ByteArray × Int => !decide (f.2 = 0)) ∘ ((fun p => (p, ofP (marksT xs) (dropN ordS x.1 xs) p)) ∘ Prod.fst)) = xs.filter fun e => decide (e.1 = x.1) := by
    refine List.filter_congr fun e he => ?_
    show (!decide (ofP (marksT xs) (dropN ordS x.1 xs) e.1 = 0)) = decide (e.1 = x.1)
    rw [hof e he]
    by_cases hk : e.1 = x.1
    · rw [if_pos hk]; simp [hk]
    · rw [if_neg hk]; simp [hk]
  rw [hfe]
  have hone : ∀ (l : List NE), Up ordS l → x ∈ l → l.filter (fun e => decide (e.1 = x.1)) = [x] := by
    intro l
    induction l with
    | nil => intro _ hm; cases hm
    | cons a l ih =>
      intro hl hm
      by_cases ha : a.1 = x.1
      · have hax : a = x := up_key hl (List.mem_cons_self ..) hm ha
        rw [List.filter_cons_of_pos (by simpa using ha), List.filter_eq_nil_iff.2 (fun e he => by
          have h1 := hl.head e he
          have : ¬ e.1 = x.1 := fun e' => by rw [e', ha] at h1; have := ordS_ord.self x.1; omega
          simpa using this), hax]
      · rw [List.filter_cons_of_neg (by simpa using ha)]
        rcases List.mem_cons.1 hm with e | e
        · exact absurd (by rw [e]) ha
        · exact ih hl.tail e
  rw [hone xs h.up hx]
  show [(x.1, ofP (marksT xs) (dropN ordS x.1 xs) x.1)] = _
  rw [hof x hx, if_pos rfl]
end Sw
/- archive.Find. -/
set_option linter.unusedVariables false
set_option linter.unusedSimpArgs false
namespace Sw
open Go
theorem toList_inj {x y : ByteArray} (h : x.toList = y.toList) : x = y := by
  rw [ByteArray.toList_eq, ByteArray.toList_eq] at h
  apply ByteArray.ext
  exact Array.ext' h
theorem str_beq (u v : ByteArray) : (u.toList == v.toList) = decide (u = v) := by
  by_cases h : u = v
  · subst h; simp
  · have : ¬ u.toList = v.toList := fun e => h (toList_inj e)
    simp [h, this]
theorem findM_at : ∀ (L : List MkE) (p : ByteArray) (i : Nat) (h : i < L.length), (∀ j (hj : j < L.length), j < i → ¬ L[j].1 = p) → L[i].1 = p → findM L p = some L[i].2
  | [], p, i, h, _, _ => absurd h (by simp)
  | m :: L, p, 0, h, _, he => by rw [findM_cons, if_pos (by simpa using he)]; rfl
  | m :: L, p, i + 1, h, hn, he => by
    have h0 := hn 0 (by simp) (by omega)
    rw [findM_cons, if_neg (by simpa using h0)]
    have := findM_at L p i (by simpa using h) (fun j hj hji => by have := hn (j + 1) (by simpa using hj) (by omega); simpa using this) (by simpa using he)
    rw [this]
    simp
end Sw
namespace Go.Proofs.YteofiffbobbdmaaGreatDoor
open Go Go.RowKit
open Sw
set_option maxRecDepth 100000 in
set_option maxHeartbeats 8000000 in
theorem findM_any (w : World) (u1 u2 : Value) (l1 l2 : List MkE) (p : ByteArray) (h1 : SlV w 6 eCM u1 l1) (h2 : SlV w 6 eCM u2 l2) (hl1 : l1.length ≤ 100000) (hl2 : l2.length ≤ 100000) :
    Calls Tryz.prog 57 #[.agg #[u1, u2], .string p] w fun e w' => e = .returned (.tuple #[.agg ((findM (l1 ++ l2) p).getD ⟨0, 0, 0, 0, 0⟩).c, .bool (findM (l1 ++ l2) p).isSome]) ∧ Below w.heap.size w w' := by
  obtain ⟨W0, hW0⟩ : ∃ W0, ((w.alloc (.cells #[u1, u2] 24)).alloc (.cells #[.int .i64 0, .int .i64 0, .int .u32 0, .int .i64 0, .int .u32 0] 75)).alloc (.cells #[u1, u2] 22) = W0 := ⟨_, rfl⟩
  have hb2 : Below w.heap.size w W0 := by rw [← hW0]; exact (((Below.refl _ w).alloc (Nat.le_refl _) _).alloc (by simp) _).alloc (by simp; omega) _
  have hR0 : Blk W0 (w.heap.size + 1) 75 #[.int .i64 0, .int .i64 0, .int .u32 0, .int .i64 0, .int .u32 0] := by rw [← hW0]; exact (blk_snd _ _ _ _).alloc _
  have hC0 : Blk W0 (w.heap.size + 1 + 1) 22 #[u1, u2] := by rw [← hW0]; exact blk_trd _ _ _ _ _
  have HC := Lib.hid (concatM_any W0 (w.heap.size + 1 + 1) _ u1 u2 l1 l2 hC0 (h1.below hb2 (Nat.le_refl _)) (h2.below hb2 (Nat.le_refl _)) hl1 hl2)
  have HB := Lib.hid (And.intro hb2 hR0)
  have HW0 := Lib.hid hW0
  have hn : (l1 ++ l2).length ≤ 200000 := by rw [List.length_append]; omega
  obtain ⟨A1, k1, rfl, _, _, _⟩ := h1
  obtain ⟨A2, k2, rfl, _, _, _⟩ := h2
  clear hb2 hR0 hC0 hW0 hl1 hl2
  generalize l1.length = n1 at *
  generalize l2.length = n2 at *
  generalize l1 ++ l2 = L at *
  obtain ⟨n, hn2⟩ : ∃ n, L.length = n := ⟨_, rfl⟩
  rw [hn2] at HC hn
  have HL := Lib.hid hn2; clear hn2
  go_enter Tryz.func57, Tryz.ntmps57
  go_wp2_with fail
  rw [HW0.out]
  refine HC.out.mono ?_
  rintro e w3 ⟨u, rfl, ho3, hb3⟩
  obtain ⟨A3, k3, rfl, _, _, _⟩ := SlV_of_any ho3
  have hsl3 := SlV.of_own ho3 eCM_len (by decide)
  have H3 := Lib.hid (And.intro hsl3 (And.intro (HB.out.1.trans (hb3.mono HB.out.1.size)) (HB.out.2.below hb3 HB.out.2.lt))); clear hb3 ho3 hsl3 HC HB
  go_wp2_with fail
  go_loopw [15] (fun iv wr => ∃ i : Nat, i ≤ n ∧ iv = .int .i64 i ∧ (∀ j (hj : j < L.length), j < i → ¬ L[j].1 = p) ∧ Below w.heap.size w wr ∧ Below w3.heap.size w3 wr) (fun iv _ => n - (intOf iv).toNat)
  case atStart => exact ⟨0, Nat.zero_le _, rfl, fun j _ h => absurd h (Nat.not_lt_zero _), H3.out.2.1, Below.refl _ _⟩
  case round =>
    obtain ⟨i, hi, rfl, hall, hb, hb3⟩ := hrel
    have HA := Lib.hid hall; clear hall
    have hR := H3.out.2.2.below hb3 H3.out.2.2.lt
    have hslr := H3.out.1.below hb3 (Nat.le_refl _)
    by_cases hlt : i < n
    · have hiL : i < L.length := by have := HL.out; omega
      obtain ⟨A', c', hA, _, _, hso⟩ := hslr
      obtain ⟨rfl, rfl⟩ : A3 = A' ∧ k3 = c' := by injection hA with e1 e2 e3; exact ⟨e1, e3⟩
      clear hA
      obtain ⟨b, off, rfl, hbb, hcs⟩ := hso (by omega)
      have c0 := hcs i hiL 0 (by omega)
      have c1 := hcs i hiL 1 (by omega)
      have c2 := hcs i hiL 2 (by omega)
      have c3' := hcs i hiL 3 (by omega)
      have c4 := hcs i hiL 4 (by omega)
      have c5 := hcs i hiL 5 (by omega)
      simp only [eCM, List.getElem?_cons_succ, List.getElem?_cons_zero, Nat.add_zero] at c0 c1 c2 c3' c4 c5
      clear hcs hso
      have hi1 : (i : Int) < n := by omega
      have hF := findM_at L p i hiL HA.out
      have HN := Lib.hid (fun (hne : ¬ L[i].1 = p) => (fun j (hj : j < L.length) (hji : j < i + 1) => (by
        by_cases h : j < i
        · exact HA.out j hj h
        · obtain rfl : j = i := by omega
          exact hne : ¬ L[j].1 = p)))
      obtain ⟨⟨q, ⟨kd, md, tm, sz, sm⟩⟩, hx⟩ : ∃ x, L[i] = x := ⟨_, rfl⟩
      simp only [hx] at c0 c1 c2 c3' c4 c5 hF HN
      clear hx
      have hba := (Below.refl wr.heap.size wr).alloc (Nat.le_refl _) (.cells #[.string q, .int .i64 kd, .int .i64 md, .int .u32 tm, .int .i64 sz, .int .u32 sm] 91)
      have HBW := Lib.hid (And.intro (hb.trans (hba.mono hb.size)) (And.intro (hb3.trans (hba.mono hb3.size)) (hR.below hba hR.lt))); clear hba hb hb3 hR
      have x0 := HBW.out.2.2.cell 0
      have x1 := HBW.out.2.2.cell 1
      have x2 := HBW.out.2.2.cell 2
      have x3 := HBW.out.2.2.cell 3
      have x4 := HBW.out.2.2.cell 4
      simp at x0 x1 x2 x3 x4
      have f0 := HBW.out.2.2.frozen 0
      have f1 := HBW.out.2.2.frozen 1
      have f2 := HBW.out.2.2.frozen 2
      have f3 := HBW.out.2.2.frozen 3
      have f4 := HBW.out.2.2.frozen 4
      by_cases hk : q = p
      · have hF2 := Lib.hid (hF hk)
        have te : (q.toList == p.toList) = true := by rw [str_beq]; simpa using hk
        clear hk hF HN
        go_wp2_with fail
        refine bodyPost_ret (res_blk_tmp rfl _ _ (w.heap.size + 1) 75 #[.int .i64 kd, .int .i64 md, .int .u32 tm, .int .i64 sz, .int .u32 sm] _ rfl (((((HBW.out.2.2.put 0 (.int .i64 kd)).put 1 (.int .i64 md)).put 2 (.int .u32 tm)).put 3 (.int .i64 sz)).put 4 (.int .u32 sm)) Tryz.underlying75 rfl (by kernel_rfl)) rfl ⟨by rw [hF2.out]; rfl, ?_⟩
        exact ((((HBW.out.1.setCell (p := ⟨w.heap.size + 1, 0, none⟩) (Nat.le_succ _) (.int .i64 kd)).setCell (p := ⟨w.heap.size + 1, 1, none⟩) (Nat.le_succ _) (.int .i64 md)).setCell (p := ⟨w.heap.size + 1, 2, none⟩) (Nat.le_succ _) (.int .u32 tm)).setCell (p := ⟨w.heap.size + 1, 3, none⟩) (Nat.le_succ _) (.int .i64 sz)).setCell (p := ⟨w.heap.size + 1, 4, none⟩) (Nat.le_succ _) (.int .u32 sm)
      · have HN2 := Lib.hid (HN.out hk)
        have te : (q.toList == p.toList) = false := by rw [str_beq]; simpa using hk
        clear hk hF HN
        go_wp2_with fail
        go_roundw
        case rel => exact ⟨i + 1, by omega, by go_num, HN2.out, HBW.out.1, HBW.out.2.1⟩
        case measure => simp [intOf]; omega
    · obtain rfl : i = n := by omega
      have hF2 := Lib.hid (findM_none (L := L) (p := p) (fun m hm => by
        obtain ⟨j, hj, rfl⟩ := List.getElem_of_mem hm
        exact HA.out j hj (by have := HL.out; omega)))
      have HBW := Lib.hid (And.intro hb hR); clear hb hb3 hR hslr
      have x0 := HBW.out.2.cell 0
      have x1 := HBW.out.2.cell 1
      have x2 := HBW.out.2.cell 2
      have x3 := HBW.out.2.cell 3
      have x4 := HBW.out.2.cell 4
      simp at x0 x1 x2 x3 x4
      have f0 := HBW.out.2.frozen 0
      have f1 := HBW.out.2.frozen 1
      have f2 := HBW.out.2.frozen 2
      have f3 := HBW.out.2.frozen 3
      have f4 := HBW.out.2.frozen 4
      go_wp2_with fail
      refine bodyPost_ret (res_blk_tmp rfl _ _ (w.heap.size + 1) 75 #[.int .i64 0, .int .i64 0, .int .u32 0, .int .i64 0, .int .u32 0] _ rfl (((((HBW.out.2.put 0 (.int .i64 0)).put 1 (.int .i64 0)).put 2 (.int .u32 0)).put 3 (.int .i64 0)).put 4 (.int .u32 0)) Tryz.underlying75 rfl (by kernel_rfl)) rfl ⟨by rw [hF2.out]; rfl, ?_⟩
      exact ((((HBW.out.1.setCell (p := ⟨w.heap.size + 1, 0, none⟩) (Nat.le_succ _) (.int .i64 0)).setCell (p := ⟨w.heap.size + 1, 1, none⟩) (Nat.le_succ _) (.int .i64 0)).setCell (p := ⟨w.heap.size + 1, 2, none⟩) (Nat.le_succ _) (.int .u32 0)).setCell (p := ⟨w.heap.size + 1, 3, none⟩) (Nat.le_succ _) (.int .i64 0)).setCell (p := ⟨w.heap.size + 1, 4, none⟩) (Nat.le_succ _) (.int .u32 0)
end Go.Proofs.YteofiffbobbdmaaGreatDoor
/- The reference's Get of marks. -/
set_option linter.unusedVariables false
set_option linter.unusedSimpArgs false
namespace Go.Proofs.YteofiffbobbdmaaGreatDoor
open Go Go.RowKit
open Sw
set_option maxRecDepth 100000 in
set_option maxHeartbeats 8000000 in
theorem refGet26_any (w : World) (u : Value) (L : List MkE) (p : ByteArray) (h : SlV w 6 eCM u L) (hn : L.length ≤ 200000) :
    Calls Tryz.prog 58 #[u, .string p] w fun e w' => e = .returned (.tuple #[.agg ((findM L p).getD ⟨0, 0, 0, 0, 0⟩).c, .bool (findM L p).isSome]) ∧ Below w.heap.size w w' := by
  have HS := Lib.hid h
  obtain ⟨A, c, rfl, _, _, _⟩ := h
  obtain ⟨n, hn2⟩ : ∃ n, L.length = n := ⟨_, rfl⟩
  rw [hn2] at HS hn ⊢
  have HL := Lib.hid hn2; clear hn2
  obtain ⟨W0, hW0⟩ : ∃ W0, w.alloc (.cells #[.int .i64 0, .int .i64 0, .int .u32 0, .int .i64 0, .int .u32 0] 75) = W0 := ⟨_, rfl⟩
  have hb0 : Below w.heap.size w W0 := by rw [← hW0]; exact (Below.refl _ w).alloc (Nat.le_refl _) _
  have hR0 : Blk W0 w.heap.size 75 #[.int .i64 0, .int .i64 0, .int .u32 0, .int .i64 0, .int .u32 0] := by rw [← hW0]; exact Blk.new _ _ _
  have HW0 := Lib.hid (And.intro hW0 (And.intro hb0 hR0)); clear hW0 hb0 hR0
  go_enter Tryz.func58, Tryz.ntmps58
  go_wp2_with fail
  rw [HW0.out.1]
  go_loopw [10] (fun iv wr => ∃ i : Nat, i ≤ n ∧ iv = .int .i64 i ∧ (∀ j (hj : j < L.length), j < i → ¬ L[j].1 = p) ∧ Below w.heap.size w wr ∧ Blk wr w.heap.size 75 #[.int .i64 0, .int .i64 0, .int .u32 0, .int .i64 0, .int .u32 0]) (fun iv _ => n - (intOf iv).toNat)
  case atStart => exact ⟨0, Nat.zero_le _, rfl, fun j _ h => absurd h (Nat.not_lt_zero _), HW0.out.2.1, HW0.out.2.2⟩
  case round =>
    obtain ⟨i, hi, rfl, hall, hb, hR⟩ := hrel
    have HA := Lib.hid hall; clear hall
    have hslr := HS.out.below hb (Nat.le_refl _)
    by_cases hlt : i < n
    · have hiL : i < L.length := by have := HL.out; omega
      obtain ⟨A', c', hA, _, _, hso⟩ := hslr
      obtain ⟨rfl, rfl⟩ : A = A' ∧ c = c' := by injection hA with e1 e2 e3; exact ⟨e1, e3⟩
      clear hA
      obtain ⟨b, off, rfl, hbb, hcs⟩ := hso (by omega)
      have c0 := hcs i hiL 0 (by omega)
      have c1 := hcs i hiL 1 (by omega)
      have c2 := hcs i hiL 2 (by omega)
      have c3' := hcs i hiL 3 (by omega)
      have c4 := hcs i hiL 4 (by omega)
      have c5 := hcs i hiL 5 (by omega)
      simp only [eCM, List.getElem?_cons_succ, List.getElem?_cons_zero, Nat.add_zero] at c0 c1 c2 c3' c4 c5
      clear hcs hso
      have hi1 : (i : Int) < n := by omega
      have hF := findM_at L p i hiL HA.out
      have HN := Lib.hid (fun (hne : ¬ L[i].1 = p) => (fun j (hj : j < L.length) (hji : j < i + 1) => (by
        by_cases h : j < i
        · exact HA.out j hj h
        · obtain rfl : j = i := by omega
          exact hne : ¬ L[j].1 = p)))
      obtain ⟨⟨q, ⟨kd, md, tm, sz, sm⟩⟩, hx⟩ : ∃ x, L[i] = x := ⟨_, rfl⟩
      simp only [hx] at c0 c1 c2 c3' c4 c5 hF HN
      clear hx
      have hba := (Below.refl wr.heap.size wr).alloc (Nat.le_refl _) (.cells #[.string q, .int .i64 kd, .int .i64 md, .int .u32 tm, .int .i64 sz, .int .u32 sm] 91)
      have HBW := Lib.hid (And.intro (hb.trans (hba.mono hb.size)) (hR.below hba hR.lt)); clear hba hb hR
      have x0 := HBW.out.2.cell 0
      have x1 := HBW.out.2.cell 1
      have x2 := HBW.out.2.cell 2
      have x3 := HBW.out.2.cell 3
      have x4 := HBW.out.2.cell 4
      simp at x0 x1 x2 x3 x4
      have f0 := HBW.out.2.frozen 0
      have f1 := HBW.out.2.frozen 1
      have f2 := HBW.out.2.frozen 2
      have f3 := HBW.out.2.frozen 3
      have f4 := HBW.out.2.frozen 4
      by_cases hk : q = p
      · have hF2 := Lib.hid (hF hk)
        have te : (q.toList == p.toList) = true := by rw [str_beq]; simpa using hk
        clear hk hF HN
        go_wp2_with fail
        refine bodyPost_ret (res_blk_tmp rfl _ _ (w.heap.size) 75 #[.int .i64 kd, .int .i64 md, .int .u32 tm, .int .i64 sz, .int .u32 sm] _ rfl (((((HBW.out.2.put 0 (.int .i64 kd)).put 1 (.int .i64 md)).put 2 (.int .u32 tm)).put 3 (.int .i64 sz)).put 4 (.int .u32 sm)) Tryz.underlying75 rfl (by kernel_rfl)) rfl ⟨by rw [hF2.out]; rfl, ?_⟩
        exact ((((HBW.out.1.setCell (p := ⟨w.heap.size, 0, none⟩) (Nat.le_refl _) (.int .i64 kd)).setCell (p := ⟨w.heap.size, 1, none⟩) (Nat.le_refl _) (.int .i64 md)).setCell (p := ⟨w.heap.size, 2, none⟩) (Nat.le_refl _) (.int .u32 tm)).setCell (p := ⟨w.heap.size, 3, none⟩) (Nat.le_refl _) (.int .i64 sz)).setCell (p := ⟨w.heap.size, 4, none⟩) (Nat.le_refl _) (.int .u32 sm)
      · have HN2 := Lib.hid (HN.out hk)
        have te : (q.toList == p.toList) = false := by rw [str_beq]; simpa using hk
        clear hk hF HN
        go_wp2_with fail
        go_roundw
        case rel => exact ⟨i + 1, by omega, by go_num, HN2.out, HBW.out.1, HBW.out.2⟩
        case measure => simp [intOf]; omega
    · obtain rfl : i = n := by omega
      have hF2 := Lib.hid (findM_none (L := L) (p := p) (fun m hm => by
        obtain ⟨j, hj, rfl⟩ := List.getElem_of_mem hm
        exact HA.out j hj (by have := HL.out; omega)))
      have HBW := Lib.hid (And.intro hb hR); clear hb hR hslr
      have x0 := HBW.out.2.cell 0
      have x1 := HBW.out.2.cell 1
      have x2 := HBW.out.2.cell 2
      have x3 := HBW.out.2.cell 3
      have x4 := HBW.out.2.cell 4
      simp at x0 x1 x2 x3 x4
      have f0 := HBW.out.2.frozen 0
      have f1 := HBW.out.2.frozen 1
      have f2 := HBW.out.2.frozen 2
      have f3 := HBW.out.2.frozen 3
      have f4 := HBW.out.2.frozen 4
      go_wp2_with fail
      refine bodyPost_ret (res_blk_tmp rfl _ _ (w.heap.size) 75 #[.int .i64 0, .int .i64 0, .int .u32 0, .int .i64 0, .int .u32 0] _ rfl (((((HBW.out.2.put 0 (.int .i64 0)).put 1 (.int .i64 0)).put 2 (.int .u32 0)).put 3 (.int .i64 0)).put 4 (.int .u32 0)) Tryz.underlying75 rfl (by kernel_rfl)) rfl ⟨by rw [hF2.out]; rfl, ?_⟩
      exact ((((HBW.out.1.setCell (p := ⟨w.heap.size, 0, none⟩) (Nat.le_refl _) (.int .i64 0)).setCell (p := ⟨w.heap.size, 1, none⟩) (Nat.le_refl _) (.int .i64 0)).setCell (p := ⟨w.heap.size, 2, none⟩) (Nat.le_refl _) (.int .u32 0)).setCell (p := ⟨w.heap.size, 3, none⟩) (Nat.le_refl _) (.int .i64 0)).setCell (p := ⟨w.heap.size, 4, none⟩) (Nat.le_refl _) (.int .u32 0)
end Go.Proofs.YteofiffbobbdmaaGreatDoor
