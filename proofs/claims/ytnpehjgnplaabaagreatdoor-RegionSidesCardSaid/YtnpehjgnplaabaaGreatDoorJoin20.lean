/- Several texts, joined for the limit of sixty files; each one opens with its own comment. -/
import Derived.Test.YtnpehjgnplaabaaGreatDoorJoin14
import Derived.Test.YtnpehjgnplaabaaGreatDoorJoin5
import Derived.Test.YtnpehjgnplaabaaGreatDoorJoin7
import Derived.Test.YtnpehjgnplaabaaGreatDoorJoin19
/- Several texts, joined for the limit of sixty files; each one opens with its own comment. -/
/- Contracts of detect.State and of the reference's State. -/
set_option linter.unusedVariables false
set_option linter.unusedSimpArgs false
namespace Sw
open Go
theorem Pr.ext_c (p q : Pr) : p = q ↔ p.kind = q.kind ∧ p.mode = q.mode ∧ p.time = q.time ∧ p.size = q.size ∧ p.sum = q.sum := by
  obtain ⟨a, b, c, d, e⟩ := p
  obtain ⟨a', b', c', d', e'⟩ := q
  simp
instance : DecidableEq Pr := fun p q => decidable_of_iff' _ (Pr.ext_c p q)
/-- what became of a node since a print -/
def stateN (was : Pr) (had : Bool) (n : Nd) : Int :=
  if had = false then (if n.kind = 0 then 0 else 1) else if was = printN n then 0 else if n.kind = 0 then 3 else 2
end Sw
namespace Go.Proofs.YtnpehjgnplaabaaGreatDoor
open Go.RowKit
open Sw
/-- the two boxes -/
def Boxes (w : World) (was : Pr) (n : Nd) (W : World) : Prop := Blk W w.heap.size 61 was.c ∧ Blk W (w.heap.size + 1) 57 n.c ∧ Below w.heap.size w W
theorem Boxes.keep {w : World} {was : Pr} {n : Nd} (W W' : World) (h : Boxes w was n W) (hb : Below W.heap.size W W') : Boxes w was n W' := ⟨h.1.below hb h.1.lt, h.2.1.below hb h.2.1.lt, h.2.2.trans (hb.mono h.2.2.size)⟩
set_option maxRecDepth 100000 in
set_option maxHeartbeats 4000000 in
theorem state_any (w : World) (was : Pr) (had : Bool) (n : Nd) (hm : n.data.size ≤ maxLen) :
    Calls Tryz.prog 136 #[.agg was.c, .bool had, .agg n.c] w fun e w' => e = .returned (.int .i64 (stateN was had n)) ∧ Below w.heap.size w w' := by
  have HP := Lib.hid (fun W => print_any W n hm)
  have hs : stateN was had n = if had = false then (if n.kind = 0 then 0 else 1) else if was = printN n then 0 else if n.kind = 0 then 3 else 2 := rfl
  have hpe := Pr.ext_c was (printN n)
  generalize printN n = p at *
  have hB0 : Boxes w was n ((w.alloc (.cells was.c 61)).alloc (.cells n.c 57)) := ⟨blk_fst _ _ _ _, blk_snd _ _ _ _, ((Below.refl _ _).alloc (Nat.le_refl _) _).alloc (by simp) _⟩
  have HB0 := Lib.hid hB0; clear hB0
  have q0 : ∀ x : Held (Boxes w was n), (HeldW x).cell? ⟨w.heap.size, 0, none⟩ = some (.int .i64 was.kind) := fun x => (HeldW_spec x).1.cell 0
  have q1 : ∀ x : Held (Boxes w was n), (HeldW x).cell? ⟨w.heap.size, 1, none⟩ = some (.int .i64 was.mode) := fun x => (HeldW_spec x).1.cell 1
  have q2 : ∀ x : Held (Boxes w was n), (HeldW x).cell? ⟨w.heap.size, 2, none⟩ = some (.int .u32 was.time) := fun x => (HeldW_spec x).1.cell 2
  have q3 : ∀ x : Held (Boxes w was n), (HeldW x).cell? ⟨w.heap.size, 3, none⟩ = some (.int .i64 was.size) := fun x => (HeldW_spec x).1.cell 3
  have q4 : ∀ x : Held (Boxes w was n), (HeldW x).cell? ⟨w.heap.size, 4, none⟩ = some (.int .u32 was.sum) := fun x => (HeldW_spec x).1.cell 4
  have n0 : ∀ x : Held (Boxes w was n), (HeldW x).cell? ⟨w.heap.size + 1, 0, none⟩ = some (.int .i64 n.kind) := fun x => (HeldW_spec x).2.1.cell 0
  have n1 : ∀ x : Held (Boxes w was n), (HeldW x).cell? ⟨w.heap.size + 1, 1, none⟩ = some (.int .i64 n.mode) := fun x => (HeldW_spec x).2.1.cell 1
  have n2 : ∀ x : Held (Boxes w was n), (HeldW x).cell? ⟨w.heap.size + 1, 2, none⟩ = some (.int .u32 n.time) := fun x => (HeldW_spec x).2.1.cell 2
  have n3 : ∀ x : Held (Boxes w was n), (HeldW x).cell? ⟨w.heap.size + 1, 3, none⟩ = some (.string n.data) := fun x => (HeldW_spec x).2.1.cell 3
  haveI : Nonempty (Held (Boxes w was n)) := held_some HB0.out
  have HPE := Lib.hid hpe; clear hpe
  have HST := Lib.hid hs; clear hs
  cases had with
  | false =>
    by_cases hk : n.kind = 0
    · have hfin : stateN was false n = 0 := by rw [HST.out, if_pos rfl, if_pos hk]
      rw [hfin]
      have hkb : (n.kind != 0) = false := by rw [bne_eq_false_iff_eq]; exact hk
      clear hfin hk
      unfold Pr.c Nd.c at *
      go_enter Tryz.func136, Tryz.ntmps136
      go_wp2_with fail
      go_quiet (fail)
      go_wp2_with fail
      go_ret
      exact ⟨rfl, below_drewN HB0.out.2.2 _⟩
    · have hfin : stateN was false n = 1 := by rw [HST.out, if_pos rfl, if_neg hk]
      rw [hfin]
      have hkb : (n.kind != 0) = true := by rw [bne_iff_ne]; exact hk
      clear hfin hk
      unfold Pr.c Nd.c at *
      go_enter Tryz.func136, Tryz.ntmps136
      go_wp2_with fail
      go_quiet (fail)
      go_wp2_with fail
      go_ret
      exact ⟨rfl, below_drewN HB0.out.2.2 _⟩
  | true =>
    by_cases hp : was = p
    · have hfin : stateN was true n = 0 := by rw [HST.out, if_neg (by simp), if_pos hp]
      rw [hfin]
      subst hp
      clear hfin HST HPE
      unfold Pr.c Nd.c at *
      go_enter Tryz.func136, Tryz.ntmps136
      go_wp2_with fail
      refine wp_region_class (Boxes w was n) (by kernel_rfl) (by kernel_rfl) (by have h := HB0.out; exact ⟨h.1, h.2.1, h.2.2.drew⟩) ?_
      repeat (go_big_quiet_step (with_reducible exact held_below Boxes.keep (HP.out _)))
      refine wpQuiet_nil ?_
      rintro _ ⟨nn, rfl⟩
      go_wp2_with fail
      go_ret
      exact ⟨rfl, (HeldW_spec nn).2.2⟩
    · have hd := HPE.out
      have hor : was.kind ≠ p.kind ∨ (was.kind = p.kind ∧ was.mode ≠ p.mode) ∨ (was.kind = p.kind ∧ was.mode = p.mode ∧ was.time ≠ p.time) ∨ (was.kind = p.kind ∧ was.mode = p.mode ∧ was.time = p.time ∧ was.size ≠ p.size) ∨ (was.kind = p.kind ∧ was.mode = p.mode ∧ was.time = p.time ∧ was.size = p.size ∧ was.sum ≠ p.sum) := by
        rw [hd] at hp
        omega
      clear hd
      obtain ⟨k2, m2, t2, z2, u2⟩ := p
      simp only at hor
      unfold Pr.c Nd.c at *
      by_cases hk : n.kind = 0
      · have hfin : stateN was true n = 3 := by rw [HST.out, if_neg (by simp), if_neg hp, if_pos hk]
        rw [hfin]
        have hkb : (n.kind != 0) = false := by rw [bne_eq_false_iff_eq]; exact hk
        clear hfin hk HST HPE hp
        rcases hor with h | ⟨rfl, h⟩ | ⟨rfl, rfl, h⟩ | ⟨rfl, rfl, rfl, h⟩ | ⟨rfl, rfl, rfl, rfl, h⟩
        all_goals
          have hb := beq_eq_false_iff_ne.2 h
          clear h
          go_enter Tryz.func136, Tryz.ntmps136
          go_wp2_with fail
          refine wp_region_class (Boxes w was n) (by kernel_rfl) (by kernel_rfl) (by have h := HB0.out; exact ⟨h.1, h.2.1, h.2.2.drew⟩) ?_
          repeat (go_big_quiet_step (with_reducible exact held_below Boxes.keep (HP.out _)))
          refine wpQuiet_nil ?_
          rintro _ ⟨nn, rfl⟩
          go_wp2_with fail
          go_ret
          exact ⟨rfl, (HeldW_spec nn).2.2⟩
      · have hfin : stateN was true n = 2 := by rw [HST.out, if_neg (by simp), if_neg hp, if_neg hk]
        rw [hfin]
        have hkb : (n.kind != 0) = true := by rw [bne_iff_ne]; exact hk
        clear hfin hk HST HPE hp
        rcases hor with h | ⟨rfl, h⟩ | ⟨rfl, rfl, h⟩ | ⟨rfl, rfl, rfl, h⟩ | ⟨rfl, rfl, rfl, rfl, h⟩
        all_goals
          have hb := beq_eq_false_iff_ne.2 h
          clear h
          go_enter Tryz.func136, Tryz.ntmps136
          go_wp2_with fail
          refine wp_region_class (Boxes w was n) (by kernel_rfl) (by kernel_rfl) (by have h := HB0.out; exact ⟨h.1, h.2.1, h.2.2.drew⟩) ?_
          repeat (go_big_quiet_step (with_reducible exact held_below Boxes.keep (HP.out _)))
          refine wpQuiet_nil ?_
          rintro _ ⟨nn, rfl⟩
          go_wp2_with fail
          go_ret
          exact ⟨rfl, (HeldW_spec nn).2.2⟩
end Go.Proofs.YtnpehjgnplaabaaGreatDoor
/- Detecting, plainly: sets of paths, prints of marks. -/
set_option linter.unusedVariables false
set_option linter.unusedSimpArgs false
namespace Sw
open Go
abbrev MkE := ByteArray × Pr
abbrev SbE := ByteArray × Bool
/-- paths put into a set -/
def setP (X : List SbE) (ps : List ByteArray) : List SbE := ps.foldl (fun X p => putN ordS p true X) X
theorem setP_app (X : List SbE) (a b : List ByteArray) : setP X (a ++ b) = setP (setP X a) b := by unfold setP; rw [List.foldl_append]
theorem setP_up : ∀ (ps : List ByteArray) (X : List SbE), Up ordS X → Up ordS (setP X ps)
  | [], _, h => h
  | p :: ps, X, h => setP_up ps _ (put_up ordS_ord p true X h)
theorem setP_len : ∀ (ps : List ByteArray) (X : List SbE), (setP X ps).length ≤ X.length + ps.length
  | [], _ => Nat.le_refl _
  | p :: ps, X => by
    have h1 := setP_len ps (putN ordS p true X)
    have h2 := put_len (c := ordS) p true X
    have h3 : (putN ordS p true X).length ≤ X.length + 1 := by rw [h2]; split <;> omega
    simp only [List.length_cons]
    exact Nat.le_trans h1 (by omega)
theorem put_keys (p : ByteArray) (v : Bool) (X : List SbE) (h : Up ordS X) (q : ByteArray) : q ∈ (putN ordS p v X).map Prod.fst ↔ q = p ∨ q ∈ X.map Prod.fst := by
  rw [put_filter ordS_ord p v X h]
  simp only [List.map_append, List.mem_append, List.map_cons, List.mem_cons, List.mem_map, List.mem_filter, decide_eq_true_eq]
  constructor
  · rintro (⟨e, he, rfl⟩ | rfl | ⟨e, he, rfl⟩)
    · exact .inr ⟨e, he.1, rfl⟩
    · exact .inl rfl
    · exact .inr ⟨e, he.1, rfl⟩
  · rintro (rfl | ⟨e, he, rfl⟩)
    · exact .inr (.inl rfl)
    · by_cases h1 : ordS e.1 p < 0
      · exact .inl ⟨e, ⟨he, h1⟩, rfl⟩
      · by_cases h2 : ordS e.1 p = 0
        · exact .inr (.inl (ordS_ord.zero _ _ h2))
        · exact .inr (.inr ⟨e, ⟨he, by omega⟩, rfl⟩)
theorem setP_keys : ∀ (ps : List ByteArray) (X : List SbE), Up ordS X → ∀ q, q ∈ (setP X ps).map Prod.fst ↔ q ∈ ps ∨ q ∈ X.map Prod.fst
  | [], _, _, q => by simp [setP]
  | p :: ps, X, h, q => by
    have h1 := setP_keys ps _ (put_up ordS_ord p true X h) q
    have h2 := put_keys p true X h q
    show q ∈ (setP (putN ordS p true X) ps).map Prod.fst ↔ _
    rw [h1, h2, List.mem_cons]
    constructor
    · rintro (h | h | h)
      · exact .inl (.inr h)
      · exact .inl (.inl h)
      · exact .inr h
    · rintro ((h | h) | h)
      · exact .inr (.inl h)
      · exact .inl h
      · exact .inr (.inr h)
/-- paths that rise -/
def Rise (l : List ByteArray) : Prop := l.Pairwise fun a b => ordS a b < 0
theorem rise_keys {β : Type} {X : List (ByteArray × β)} (h : Up ordS X) : Rise (X.map Prod.fst) := by
  unfold Rise
  rw [List.pairwise_map]
  exact h
theorem rise_ext : ∀ {l m : List ByteArray}, Rise l → Rise m → (∀ q, q ∈ l ↔ q ∈ m) → l = m
  | [], [], _, _, _ => rfl
  | [], b :: m, _, _, h => absurd ((h b).2 (List.mem_cons_self ..)) (by simp)
  | a :: l, [], _, _, h => absurd ((h a).1 (List.mem_cons_self ..)) (by simp)
  | a :: l, b :: m, hl, hm, h => by
    have irr : ∀ x, ¬ ordS x x < 0 := fun x => by have := ordS_ord.self x; omega
    have ha := (List.pairwise_cons.1 hl).1
    have hb := (List.pairwise_cons.1 hm).1
    have hab : a = b := by
      rcases List.mem_cons.1 ((h a).1 (List.mem_cons_self ..)) with e | e
      · exact e
      · rcases List.mem_cons.1 ((h b).2 (List.mem_cons_self ..)) with e2 | e2
        · exact e2.symm
        · exact absurd (ordS_ord.trans _ _ _ (hb a e) (ha b e2)) (irr b)
    subst hab
    rw [rise_ext (List.pairwise_cons.1 hl).2 (List.pairwise_cons.1 hm).2 (fun q => ?_)]
    constructor
    · intro hq
      rcases List.mem_cons.1 ((h q).1 (List.mem_cons_of_mem _ hq)) with e | e
      · subst e; exact absurd (ha _ hq) (irr _)
      · exact e
    · intro hq
      rcases List.mem_cons.1 ((h q).2 (List.mem_cons_of_mem _ hq)) with e | e
      · subst e; exact absurd (hb _ hq) (irr _)
      · exact e
/-- the paths of a row of paths, each once, in order -/
def pathsS (ps : List ByteArray) : List ByteArray := (setP [] ps).map Prod.fst
theorem pathsS_rise (ps : List ByteArray) : Rise (pathsS ps) := rise_keys (setP_up ps [] List.Pairwise.nil)
theorem pathsS_mem (ps : List ByteArray) (q : ByteArray) : q ∈ pathsS ps ↔ q ∈ ps := by
  unfold pathsS
  rw [setP_keys ps [] List.Pairwise.nil]
  simp
theorem pathsS_len (ps : List ByteArray) : (pathsS ps).length ≤ ps.length := by
  unfold pathsS
  rw [List.length_map]
  simpa using setP_len ps []
/-- whatever rises and has the same paths is it -/
theorem pathsS_eq {ps l : List ByteArray} (hl : Rise l) (h : ∀ q, q ∈ l ↔ q ∈ ps) : pathsS ps = l := rise_ext (pathsS_rise ps) hl (fun q => by rw [pathsS_mem, h])
/-- the first print at a path -/
def findM (L : List MkE) (p : ByteArray) : Option Pr := (L.find? fun m => decide (m.1 = p)).map Prod.snd
theorem findM_cons (m : MkE) (L : List MkE) (p : ByteArray) : findM (m :: L) p = if m.1 = p then some m.2 else findM L p := by
  unfold findM
  by_cases h : m.1 = p
  · rw [if_pos h, List.find?_cons_of_pos (by simpa using h)]; rfl
  · rw [if_neg h, List.find?_cons_of_neg (by simpa using h)]
/-- the marks of a tree's row -/
def marksT (xs : List NE) : List MkE := xs.map fun e => (e.1, printN e.2)
theorem findM_up : ∀ {L : List MkE}, Up ordS L → ∀ {m : MkE}, m ∈ L → findM L m.1 = some m.2
  | [], _, m, h => by cases h
  | a :: L, hu, m, h => by
    rw [findM_cons]
    rcases List.mem_cons.1 h with e | e
    · subst e; rw [if_pos rfl]
    · have h1 := hu.head m e
      have hne : ¬ a.1 = m.1 := fun e' => by rw [e'] at h1; have := ordS_ord.self m.1; omega
      rw [if_neg hne]
      exact findM_up hu.tail e
theorem findM_none {L : List MkE} {p : ByteArray} (h : ∀ m ∈ L, ¬ m.1 = p) : findM L p = none := by
  unfold findM
  rw [List.find?_eq_none.2 (fun m hm => by simpa using h m hm)]
  rfl
theorem marksT_up {xs : List NE} (h : Up ordS xs) : Up ordS (marksT xs) := by
  unfold marksT Up
  rw [List.pairwise_map]
  exact h
end Sw
/- Contracts of recon.Class, node.Same, recon.Decide, and of the reference's Class and Decide. -/
set_option linter.unusedVariables false
set_option linter.unusedSimpArgs false
namespace Sw
open Go
/-- the class of a conflict -/
def classN (a b : Nd) : Int := if a.kind = 0 ∨ b.kind = 0 then 2 else if a.kind ≠ b.kind then 3 else 1
/-- what is decided -/
def decideN (was : Pr) (had : Bool) (a b : Nd) : Int × Int :=
  if printN a = printN b then (0, 0) else if stateN was had a = 0 then (1, 0) else if stateN was had b = 0 then (2, 0) else (3, classN a b)
end Sw
namespace Go.Proofs.YtnpehjgnplaabaaGreatDoor
open Go.RowKit
open Sw
set_option maxRecDepth 100000 in
theorem eq_print (p q : Pr) (W : World) : (binOp .eql 61 (.agg p.c) (.agg q.c)).run Tryz.prog W = .ok (.bool (decide (p = q))) W := by
  obtain ⟨k1, m1, t1, z1, u1⟩ := p
  obtain ⟨k2, m2, t2, z2, u2⟩ := q
  unfold Pr.c
  by_cases h1 : k1 = k2
  · subst h1
    by_cases h2 : m1 = m2
    · subst h2
      by_cases h3 : t1 = t2
      · subst h3
        by_cases h4 : z1 = z2
        · subst h4
          by_cases h5 : u1 = u2
          · subst h5
            simp [go_sem, Tryz.underlying61, Tryz.underlying3, Tryz.underlying51]
          · have hb := beq_eq_false_iff_ne.2 h5
            simp [go_sem, hb, h5, Tryz.underlying61, Tryz.underlying3, Tryz.underlying51]
        · have hb := beq_eq_false_iff_ne.2 h4
          simp [go_sem, hb, h4, Tryz.underlying61, Tryz.underlying3, Tryz.underlying51]
      · have hb := beq_eq_false_iff_ne.2 h3
        simp [go_sem, hb, h3, Tryz.underlying61, Tryz.underlying3, Tryz.underlying51]
    · have hb := beq_eq_false_iff_ne.2 h2
      simp [go_sem, hb, h2, Tryz.underlying61, Tryz.underlying3, Tryz.underlying51]
  · have hb := beq_eq_false_iff_ne.2 h1
    simp [go_sem, hb, h1, Tryz.underlying61, Tryz.underlying3, Tryz.underlying51]
set_option maxRecDepth 100000 in
theorem class_any (w : World) (a b : Nd) :
    Calls Tryz.prog 137 #[.agg a.c, .agg b.c] w fun e w' => e = .returned (.int .i64 (classN a b)) ∧ Below w.heap.size w w' := by
  unfold classN Nd.c
  have hb2 := ((Below.refl w.heap.size w).alloc (Nat.le_refl _) (.cells #[.int .i64 a.kind, .int .i64 a.mode, .int .u32 a.time, .string a.data] 57)).alloc (by simp) (.cells #[.int .i64 b.kind, .int .i64 b.mode, .int .u32 b.time, .string b.data] 57)
  by_cases ha : a.kind = 0
  · have hab : (a.kind == 0) = true := by rw [beq_iff_eq]; exact ha
    rw [if_pos (.inl ha)]
    clear ha
    go_enter Tryz.func137, Tryz.ntmps137
    go_wp2_with fail
    go_ret
    exact ⟨rfl, hb2⟩
  · have hab : (a.kind == 0) = false := by rw [beq_eq_false_iff_ne]; exact ha
    by_cases hb : b.kind = 0
    · have hbb : (b.kind == 0) = true := by rw [beq_iff_eq]; exact hb
      rw [if_pos (.inr hb)]
      clear ha hb
      go_enter Tryz.func137, Tryz.ntmps137
      go_wp2_with fail
      go_ret
      exact ⟨rfl, hb2⟩
    · have hbb : (b.kind == 0) = false := by rw [beq_eq_false_iff_ne]; exact hb
      rw [if_neg (by omega)]
      by_cases hc : a.kind = b.kind
      · have hcb : (a.kind != b.kind) = false := by rw [bne_eq_false_iff_eq]; exact hc
        rw [if_neg (by omega)]
        clear ha hb hc
        go_enter Tryz.func137, Tryz.ntmps137
        go_wp2_with fail
        go_ret
        exact ⟨rfl, hb2⟩
      · have hcb : (a.kind != b.kind) = true := by rw [bne_iff_ne]; exact hc
        rw [if_pos hc]
        clear ha hb hc
        go_enter Tryz.func137, Tryz.ntmps137
        go_wp2_with fail
        go_ret
        exact ⟨rfl, hb2⟩
/-- two nodes in their boxes -/
def Nodes2 (w : World) (a b : Nd) (W : World) : Prop := Blk W w.heap.size 57 a.c ∧ Blk W (w.heap.size + 1) 57 b.c ∧ Below w.heap.size w W
theorem Nodes2.keep {w : World} {a b : Nd} (W W' : World) (h : Nodes2 w a b W) (hb : Below W.heap.size W W') : Nodes2 w a b W' := ⟨h.1.below hb h.1.lt, h.2.1.below hb h.2.1.lt, h.2.2.trans (hb.mono h.2.2.size)⟩
set_option maxRecDepth 100000 in
set_option maxHeartbeats 4000000 in
theorem nodeSame_any (w : World) (a b : Nd) (ha : a.data.size ≤ maxLen) (hb : b.data.size ≤ maxLen) :
    Calls Tryz.prog 65 #[.agg a.c, .agg b.c] w fun e w' => e = .returned (.bool (decide (printN a = printN b))) ∧ Below w.heap.size w w' := by
  have hA := fun W => print_any W a ha
  have hB := fun W => print_any W b hb
  have hEQ := fun W => eq_print (printN a) (printN b) W
  have hB0 : Nodes2 w a b ((w.alloc (.cells a.c 57)).alloc (.cells b.c 57)) := ⟨blk_fst _ _ _ _, blk_snd _ _ _ _, ((Below.refl _ _).alloc (Nat.le_refl _) _).alloc (by simp) _⟩
  have HB0 := Lib.hid hB0; clear hB0
  generalize printN a = p at *
  generalize printN b = q at *
  generalize decide (p = q) = r at *
  have q0 : ∀ x : Held (Nodes2 w a b), (HeldW x).cell? ⟨w.heap.size, 0, none⟩ = some (.int .i64 a.kind) := fun x => ((HeldW_spec x).1).cell 0
  have q1 : ∀ x : Held (Nodes2 w a b), (HeldW x).cell? ⟨w.heap.size, 1, none⟩ = some (.int .i64 a.mode) := fun x => ((HeldW_spec x).1).cell 1
  have q2 : ∀ x : Held (Nodes2 w a b), (HeldW x).cell? ⟨w.heap.size, 2, none⟩ = some (.int .u32 a.time) := fun x => ((HeldW_spec x).1).cell 2
  have q3 : ∀ x : Held (Nodes2 w a b), (HeldW x).cell? ⟨w.heap.size, 3, none⟩ = some (.string a.data) := fun x => ((HeldW_spec x).1).cell 3
  have n0 : ∀ x : Held (Nodes2 w a b), (HeldW x).cell? ⟨w.heap.size + 1, 0, none⟩ = some (.int .i64 b.kind) := fun x => ((HeldW_spec x).2.1).cell 0
  have n1 : ∀ x : Held (Nodes2 w a b), (HeldW x).cell? ⟨w.heap.size + 1, 1, none⟩ = some (.int .i64 b.mode) := fun x => ((HeldW_spec x).2.1).cell 1
  have n2 : ∀ x : Held (Nodes2 w a b), (HeldW x).cell? ⟨w.heap.size + 1, 2, none⟩ = some (.int .u32 b.time) := fun x => ((HeldW_spec x).2.1).cell 2
  have n3 : ∀ x : Held (Nodes2 w a b), (HeldW x).cell? ⟨w.heap.size + 1, 3, none⟩ = some (.string b.data) := fun x => ((HeldW_spec x).2.1).cell 3
  haveI : Nonempty (Held (Nodes2 w a b)) := held_some HB0.out
  unfold Nd.c Pr.c at *
  have HA := Lib.hid hA; clear hA
  have HB := Lib.hid hB; clear hB
  go_enter Tryz.func65, Tryz.ntmps65
  go_wp2_with fail
  refine wp_region_class (Nodes2 w a b) (by kernel_rfl) (by kernel_rfl) (by have h := HB0.out; exact ⟨h.1, h.2.1, h.2.2.drew⟩) ?_
  repeat (go_big_quiet_step (first | with_reducible exact held_below Nodes2.keep (HA.out _) | with_reducible exact held_below Nodes2.keep (HB.out _)))
  refine wpQuiet_nil ?_
  rintro _ ⟨nn, rfl⟩
  go_wp2_with fail
  go_ret
  exact ⟨rfl, (HeldW_spec nn).2.2⟩
set_option maxRecDepth 100000 in
set_option maxHeartbeats 4000000 in
theorem still_any (w : World) (g h : Nat) (was : Pr) (had : Bool) (n : Nd) (hm : n.data.size ≤ maxLen) (hg : Blk w g 61 was.c) (hh : Blk w h 4 #[.bool had]) :
    Calls Tryz.prog 135 #[.agg n.c, .pointer (some ⟨g, 0, none⟩), .pointer (some ⟨h, 0, none⟩)] w fun e w' => e = .returned (.bool (decide (stateN was had n = 0))) ∧ Below w.heap.size w w' := by
  have hst := fun W => state_any W was had n hm
  generalize stateN was had n = st at *
  have hlg := hg.lt
  have hlh := hh.lt
  have q0 := hg.cell 0
  have q1 := hg.cell 1
  have q2 := hg.cell 2
  have q3 := hg.cell 3
  have q4 := hg.cell 4
  have h0 := hh.cell 0
  unfold Pr.c at q0 q1 q2 q3 q4
  simp at q0 q1 q2 q3 q4 h0
  unfold Nd.c Pr.c at *
  have hng : g ≠ w.heap.size := by omega
  have hnh : h ≠ w.heap.size := by omega
  clear hg hh
  have HST := Lib.hid hst; clear hst
  by_cases hz : st = 0
  · have hzb : (st == 0) = true := by rw [beq_iff_eq]; exact hz
    rw [decide_eq_true hz]
    clear hz
    go_enter Tryz.func135, Tryz.ntmps135
    go_wp2_with fail
    refine (HST.out _).mono ?_
    rintro e w1 ⟨rfl, hb1⟩
    go_wp2_with fail
    go_ret
    exact ⟨rfl, ((Below.refl _ _).alloc (Nat.le_refl _) _).trans (hb1.mono (by simp))⟩
  · have hzb : (st == 0) = false := by rw [beq_eq_false_iff_ne]; exact hz
    rw [decide_eq_false hz]
    clear hz
    go_enter Tryz.func135, Tryz.ntmps135
    go_wp2_with fail
    refine (HST.out _).mono ?_
    rintro e w1 ⟨rfl, hb1⟩
    go_wp2_with fail
    go_ret
    exact ⟨rfl, ((Below.refl _ _).alloc (Nat.le_refl _) _).trans (hb1.mono (by simp))⟩
end Go.Proofs.YtnpehjgnplaabaaGreatDoor
/- Deciding, plainly: both sides the other way round. -/
set_option linter.unusedVariables false
set_option linter.unusedSimpArgs false
namespace Sw
open Go
/-- what is decided of a path -/
structure StR where
  path : ByteArray
  verdict : Int
  cls : Int
  left : Nd
  right : Nd
def stepR (L : List MkE) (xs ys : List NE) (p : ByteArray) : StR :=
  ⟨p, (decideN ((findM L p).getD ⟨0, 0, 0, 0, 0⟩) (findM L p).isSome (getT xs p) (getT ys p)).1, (decideN ((findM L p).getD ⟨0, 0, 0, 0, 0⟩) (findM L p).isSome (getT xs p) (getT ys p)).2, getT xs p, getT ys p⟩
def allR (L : List MkE) (xs ys : List NE) : List StR := (pathsS (L.map Prod.fst ++ xs.map Prod.fst ++ ys.map Prod.fst)).map (stepR L xs ys)
theorem getT_zero {xs : List NE} (h : TI xs) (p : ByteArray) (hk : (getT xs p).kind = 0) : getT xs p = ndZ := by
  rcases Classical.em (∃ e ∈ xs, e.1 = p) with ⟨e, he, rfl⟩ | hn
  · rw [getT_in h.up he] at hk
    exact absurd hk (h.nod e he).1
  · exact getT_out h.up (fun e he h => hn ⟨e, he, h⟩)
end Sw
