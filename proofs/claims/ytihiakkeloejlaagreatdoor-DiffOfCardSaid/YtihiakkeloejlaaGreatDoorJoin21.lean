/- Several texts, joined for the limit of sixty files; each one opens with its own comment. -/
import Derived.Test.YtihiakkeloejlaaGreatDoorJoin8
import Derived.Test.YtihiakkeloejlaaGreatDoorJoin18
import Derived.Test.YtihiakkeloejlaaGreatDoorJoin20
/- Detecting, plainly: sets of paths, prints of marks. -/
set_option linter.unusedVariables false
set_option linter.unusedSimpArgs false
namespace Sw
open Go
abbrev MkE := ByteArray × Pr
abbrev SbE := ByteArray × Bool
/-- paths put into a set -/
def setP (X : List SbE) (ps : List ByteArray) : List SbE := ps.foldl (fun X p => putN ordS p true X) X
theorem setP_app (X : List SbE) (a b : List ByteArray) : setP X (a ++ b) = setP (setP X a) b := by unfold setP; rw [List.foldl_append]
theorem setP_step (X : List SbE) (ps : List ByteArray) (i : Nat) (h : i < ps.length) : setP X (ps.take (i + 1)) = putN ordS ps[i] true (setP X (ps.take i)) := by
  rw [List.take_succ_eq_append_getElem h, setP_app]
  rfl
theorem setP_up : ∀ (ps : List ByteArray) (X : List SbE), Up ordS X → Up ordS (setP X ps)
  | [], _, h => h
  | p :: ps, X, h => setP_up ps _ (put_up ordS_ord p true X h)
theorem setP_len : ∀ (ps : List ByteArray) (X : List SbE), (setP X ps).length ≤ X.length + ps.length
  | [], _ => Nat.le_refl _
  | p :: ps, X => by
    have h1 := setP_len ps (putN ordS p true X)
    have h2 := put_len (c := ordS) p true X
    have h3 : (putN ordS p true X).length ≤ X.length + 1 := by rw [h2]; split <;> omega
    simp only [List.length_cons]
    exact Nat.le_trans h1 (by omega)
theorem put_keys (p : ByteArray) (v : Bool) (X : List SbE) (h : Up ordS X) (q : ByteArray) : q ∈ (putN ordS p v X).map Prod.fst ↔ q = p ∨ q ∈ X.map Prod.fst := by
  rw [put_filter ordS_ord p v X h]
  simp only [List.map_append, List.mem_append, List.map_cons, List.mem_cons, List.mem_map, List.mem_filter, decide_eq_true_eq]
  constructor
  · rintro (⟨e, he, rfl⟩ | rfl | ⟨e, he, rfl⟩)
    · exact .inr ⟨e, he.1, rfl⟩
    · exact .inl rfl
    · exact .inr ⟨e, he.1, rfl⟩
  · rintro (rfl | ⟨e, he, rfl⟩)
    · exact .inr (.inl rfl)
    · by_cases h1 : ordS e.1 p < 0
      · exact .inl ⟨e, ⟨he, h1⟩, rfl⟩
      · by_cases h2 : ordS e.1 p = 0
        · exact .inr (.inl (ordS_ord.zero _ _ h2))
        · exact .inr (.inr ⟨e, ⟨he, by omega⟩, rfl⟩)
theorem setP_keys : ∀ (ps : List ByteArray) (X : List SbE), Up ordS X → ∀ q, q ∈ (setP X ps).map Prod.fst ↔ q ∈ ps ∨ q ∈ X.map Prod.fst
  | [], _, _, q => by simp [setP]
  | p :: ps, X, h, q => by
    have h1 := setP_keys ps _ (put_up ordS_ord p true X h) q
    have h2 := put_keys p true X h q
    show q ∈ (setP (putN ordS p true X) ps).map Prod.fst ↔ _
    rw [h1, h2, List.mem_cons]
    constructor
    · rintro (h | h | h)
      · exact .inl (.inr h)
      · exact .inl (.inl h)
      · exact .inr h
    · rintro ((h | h) | h)
      · exact .inr (.inl h)
      · exact .inl h
      · exact .inr (.inr h)
/-- paths that rise -/
def Rise (l : List ByteArray) : Prop := l.Pairwise fun a b => ordS a b < 0
theorem rise_keys {β : Type} {X : List (ByteArray × β)} (h : Up ordS X) : Rise (X.map Prod.fst) := by
  unfold Rise
  rw [List.pairwise_map]
  exact h
theorem rise_ext : ∀ {l m : List ByteArray}, Rise l → Rise m → (∀ q, q ∈ l ↔ q ∈ m) → l = m
  | [], [], _, _, _ => rfl
  | [], b :: m, _, _, h => absurd ((h b).2 (List.mem_cons_self ..)) (by simp)
  | a :: l, [], _, _, h => absurd ((h a).1 (List.mem_cons_self ..)) (by simp)
  | a :: l, b :: m, hl, hm, h => by
    have irr : ∀ x, ¬ ordS x x < 0 := fun x => by have := ordS_ord.self x; omega
    have ha := (List.pairwise_cons.1 hl).1
    have hb := (List.pairwise_cons.1 hm).1
    have hab : a = b := by
      rcases List.mem_cons.1 ((h a).1 (List.mem_cons_self ..)) with e | e
      · exact e
      · rcases List.mem_cons.1 ((h b).2 (List.mem_cons_self ..)) with e2 | e2
        · exact e2.symm
        · exact absurd (ordS_ord.trans _ _ _ (hb a e) (ha b e2)) (irr b)
    subst hab
    rw [rise_ext (List.pairwise_cons.1 hl).2 (List.pairwise_cons.1 hm).2 (fun q => ?_)]
    constructor
    · intro hq
      rcases List.mem_cons.1 ((h q).1 (List.mem_cons_of_mem _ hq)) with e | e
      · subst e; exact absurd (ha _ hq) (irr _)
      · exact e
    · intro hq
      rcases List.mem_cons.1 ((h q).2 (List.mem_cons_of_mem _ hq)) with e | e
      · subst e; exact absurd (hb _ hq) (irr _)
      · exact e
/-- the paths of a row of paths, each once, in order -/
def pathsS (ps : List ByteArray) : List ByteArray := (setP [] ps).map Prod.fst
theorem pathsS_rise (ps : List ByteArray) : Rise (pathsS ps) := rise_keys (setP_up ps [] List.Pairwise.nil)
theorem pathsS_mem (ps : List ByteArray) (q : ByteArray) : q ∈ pathsS ps ↔ q ∈ ps := by
  unfold pathsS
  rw [setP_keys ps [] List.Pairwise.nil]
  simp
theorem pathsS_len (ps : List ByteArray) : (pathsS ps).length ≤ ps.length := by
  unfold pathsS
  rw [List.length_map]
  simpa using setP_len ps []
/-- whatever rises and has the same paths is it -/
theorem pathsS_eq {ps l : List ByteArray} (hl : Rise l) (h : ∀ q, q ∈ l ↔ q ∈ ps) : pathsS ps = l := rise_ext (pathsS_rise ps) hl (fun q => by rw [pathsS_mem, h])
/-- the first print at a path -/
def findM (L : List MkE) (p : ByteArray) : Option Pr := (L.find? fun m => decide (m.1 = p)).map Prod.snd
theorem findM_cons (m : MkE) (L : List MkE) (p : ByteArray) : findM (m :: L) p = if m.1 = p then some m.2 else findM L p := by
  unfold findM
  by_cases h : m.1 = p
  · rw [if_pos h, List.find?_cons_of_pos (by simpa using h)]; rfl
  · rw [if_neg h, List.find?_cons_of_neg (by simpa using h)]
/-- the marks of a tree's row -/
def marksT (xs : List NE) : List MkE := xs.map fun e => (e.1, printN e.2)
/-- what became of a path -/
def ofP (L : List MkE) (xs : List NE) (p : ByteArray) : Int := stateN ((findM L p).getD ⟨0, 0, 0, 0, 0⟩) (findM L p).isSome (getT xs p)
theorem findM_up : ∀ {L : List MkE}, Up ordS L → ∀ {m : MkE}, m ∈ L → findM L m.1 = some m.2
  | [], _, m, h => by cases h
  | a :: L, hu, m, h => by
    rw [findM_cons]
    rcases List.mem_cons.1 h with e | e
    · subst e; rw [if_pos rfl]
    · have h1 := hu.head m e
      have hne : ¬ a.1 = m.1 := fun e' => by rw [e'] at h1; have := ordS_ord.self m.1; omega
      rw [if_neg hne]
      exact findM_up hu.tail e
theorem findM_none {L : List MkE} {p : ByteArray} (h : ∀ m ∈ L, ¬ m.1 = p) : findM L p = none := by
  unfold findM
  rw [List.find?_eq_none.2 (fun m hm => by simpa using h m hm)]
  rfl
theorem marksT_up {xs : List NE} (h : Up ordS xs) : Up ordS (marksT xs) := by
  unfold marksT Up
  rw [List.pairwise_map]
  exact h
theorem marksT_keys (xs : List NE) : (marksT xs).map Prod.fst = xs.map Prod.fst := by
  unfold marksT
  rw [List.map_map]
  rfl
/-- what became of all paths -/
def allP (L : List MkE) (xs : List NE) : List (ByteArray × Int) := (pathsS (L.map Prod.fst ++ xs.map Prod.fst)).map fun p => (p, ofP L xs p)
theorem ofP_self {xs : List NE} (h : TI xs) {e : NE} (he : e ∈ xs) : ofP (marksT xs) xs e.1 = 0 := by
  unfold ofP
  have hm : (e.1, printN e.2) ∈ marksT xs := List.mem_map_of_mem he
  have h1 := findM_up (marksT_up h.up) hm
  dsimp only at h1
  rw [h1, getT_in h.up he]
  unfold stateN
  simp
theorem ofP_nil {xs : List NE} (h : TI xs) {e : NE} (he : e ∈ xs) : ofP [] xs e.1 = 1 := by
  unfold ofP
  rw [show findM [] e.1 = none from rfl, getT_in h.up he]
  unfold stateN
  simp [(h.nod e he).1]
theorem allP_self {xs : List NE} (h : TI xs) : allP (marksT xs) xs = xs.map fun e => (e.1, 0) := by
  unfold allP
  rw [marksT_keys, pathsS_eq (rise_keys h.up) (fun q => by simp), List.map_map]
  exact List.map_congr_left fun e he => by show (e.1, ofP (marksT xs) xs e.1) = _; rw [ofP_self h he]
theorem allP_nil {xs : List NE} (h : TI xs) : allP [] xs = xs.map fun e => (e.1, 1) := by
  unfold allP
  rw [List.map_nil, List.nil_append, pathsS_eq (rise_keys h.up) (fun q => Iff.rfl), List.map_map]
  exact List.map_congr_left fun e he => by show (e.1, ofP [] xs e.1) = _; rw [ofP_nil h he]
theorem dropN_mem {xs : List NE} (hu : Up ordS xs) {p : ByteArray} (e : NE) : e ∈ dropN ordS p xs ↔ e ∈ xs ∧ ¬ e.1 = p := by
  rw [drop_filter ordS_ord p xs hu, List.mem_filter]
  simp [ordS_ord.iff]
/-- with one path dropped, that one is gone -/
theorem allP_drop {xs : List NE} (h : TI xs) {x : NE} (hx : x ∈ xs) : (allP (marksT xs) (dropN ordS x.1 xs)).filter (fun f => !decide (f.2 = 0)) = [(x.1, 3)] := by
  have hu := drop_up ordS_ord x.1 xs h.up
  have hp : pathsS ((marksT xs).map Prod.fst ++ (dropN ordS x.1 xs).map Prod.fst) = xs.map Prod.fst := by
    rw [marksT_keys]
    refine pathsS_eq (rise_keys h.up) fun q => ?_
    rw [List.mem_append]
    refine ⟨.inl, ?_⟩
    rintro (hq | hq)
    · exact hq
    · obtain ⟨e, he, rfl⟩ := List.mem_map.1 hq
      exact List.mem_map_of_mem ((dropN_mem h.up e).1 he).1
  have hof : ∀ e ∈ xs, ofP (marksT xs) (dropN ordS x.1 xs) e.1 = if e.1 = x.1 then 3 else 0 := fun e he => by
    unfold ofP
    have hm : (e.1, printN e.2) ∈ marksT xs := List.mem_map_of_mem he
    have h1 := findM_up (marksT_up h.up) hm
    dsimp only at h1
    rw [h1]
    by_cases hk : e.1 = x.1
    · rw [if_pos hk, getT_out hu (fun d hd => by rw [hk]; exact ((dropN_mem h.up d).1 hd).2)]
      unfold stateN
      have hne : ¬ printN e.2 = printN ndZ := fun e' => (h.nod e he).1 (by have := congrArg Pr.kind e'; simpa [printN, ndZ] using this)
      simp only [Option.isSome_some, Option.getD_some]
      rw [if_neg (by simp), if_neg hne]
      rfl
    · rw [if_neg hk, getT_in hu ((dropN_mem h.up e).2 ⟨he, hk⟩)]
      unfold stateN
      simp
  unfold allP
  rw [hp, List.map_map, List.filter_map]
  have hfe : xs.filter ((fun f : ByteArray × Int => !decide (f.2 = 0)) ∘ ((fun p => (p, ofP (marksT xs) (dropN ordS x.1 xs) p)) ∘ Prod.fst)) = xs.filter fun e => decide (e.1 = x.1) := by
    refine List.filter_congr fun e he => ?_
    show (!decide (ofP (marksT xs) (dropN ordS x.1 xs) e.1 = 0)) = decide (e.1 = x.1)
    rw [hof e he]
    by_cases hk : e.1 = x.1
    · rw [if_pos hk]; simp [hk]
    · rw [if_neg hk]; simp [hk]
  rw [hfe]
  have hone : ∀ (l : List NE), Up ordS l → x ∈ l → l.filter (fun e => decide (e.1 = x.1)) = [x] := by
    intro l
    induction l with
    | nil => intro _ hm; cases hm
    | cons a l ih =>
      intro hl hm
      by_cases ha : a.1 = x.1
      · have hax : a = x := up_key hl (List.mem_cons_self ..) hm ha
        rw [List.filter_cons_of_pos (by simpa using ha), List.filter_eq_nil_iff.2 (fun e he => by
          have h1 := hl.head e he
          have : ¬ e.1 = x.1 := fun e' => by rw [e', ha] at h1; have := ordS_ord.self x.1; omega
          simpa using this), hax]
      · rw [List.filter_cons_of_neg (by simpa using ha)]
        rcases List.mem_cons.1 hm with e | e
        · exact absurd (by rw [e]) ha
        · exact ih hl.tail e
  rw [hone xs h.up hx]
  show [(x.1, ofP (marksT xs) (dropN ordS x.1 xs) x.1)] = _
  rw [hof x hx, if_pos rfl]
end Sw
/- Contracts of recon.Class, node.Same, recon.Decide, and of the reference's Class and Decide. -/
set_option linter.unusedVariables false
set_option linter.unusedSimpArgs false
namespace Sw
open Go
/-- the class of a conflict -/
def classN (a b : Nd) : Int := if a.kind = 0 ∨ b.kind = 0 then 2 else if a.kind ≠ b.kind then 3 else 1
/-- what is decided -/
def decideN (was : Pr) (had : Bool) (a b : Nd) : Int × Int :=
  if printN a = printN b then (0, 0) else if stateN was had a = 0 then (1, 0) else if stateN was had b = 0 then (2, 0) else (3, classN a b)
end Sw
namespace Go.Proofs.YtihiakkeloejlaaGreatDoor
open Go.RowKit
open Sw
set_option maxRecDepth 100000 in
theorem eq_print (p q : Pr) (W : World) : (binOp .eql 78 (.agg p.c) (.agg q.c)).run Tryz.prog W = .ok (.bool (decide (p = q))) W := by
  obtain ⟨k1, m1, t1, z1, u1⟩ := p
  obtain ⟨k2, m2, t2, z2, u2⟩ := q
  unfold Pr.c
  by_cases h1 : k1 = k2
  · subst h1
    by_cases h2 : m1 = m2
    · subst h2
      by_cases h3 : t1 = t2
      · subst h3
        by_cases h4 : z1 = z2
        · subst h4
          by_cases h5 : u1 = u2
          · subst h5
            simp [go_sem, Tryz.underlying78, Tryz.underlying3, Tryz.underlying52]
          · have hb := beq_eq_false_iff_ne.2 h5
            simp [go_sem, hb, h5, Tryz.underlying78, Tryz.underlying3, Tryz.underlying52]
        · have hb := beq_eq_false_iff_ne.2 h4
          simp [go_sem, hb, h4, Tryz.underlying78, Tryz.underlying3, Tryz.underlying52]
      · have hb := beq_eq_false_iff_ne.2 h3
        simp [go_sem, hb, h3, Tryz.underlying78, Tryz.underlying3, Tryz.underlying52]
    · have hb := beq_eq_false_iff_ne.2 h2
      simp [go_sem, hb, h2, Tryz.underlying78, Tryz.underlying3, Tryz.underlying52]
  · have hb := beq_eq_false_iff_ne.2 h1
    simp [go_sem, hb, h1, Tryz.underlying78, Tryz.underlying3, Tryz.underlying52]
/-- two nodes in their boxes -/
def Nodes2 (w : World) (a b : Nd) (W : World) : Prop := Blk W w.heap.size 54 a.c ∧ Blk W (w.heap.size + 1) 54 b.c ∧ Below w.heap.size w W
theorem Nodes2.keep {w : World} {a b : Nd} (W W' : World) (h : Nodes2 w a b W) (hb : Below W.heap.size W W') : Nodes2 w a b W' := ⟨h.1.below hb h.1.lt, h.2.1.below hb h.2.1.lt, h.2.2.trans (hb.mono h.2.2.size)⟩
set_option maxRecDepth 100000 in
set_option maxHeartbeats 4000000 in
theorem nodeSame_any (w : World) (a b : Nd) (ha : a.data.size ≤ maxLen) (hb : b.data.size ≤ maxLen) :
    Calls Tryz.prog 55 #[.agg a.c, .agg b.c] w fun e w' => e = .returned (.bool (decide (printN a = printN b))) ∧ Below w.heap.size w w' := by
  have hA := fun W => print_any W a ha
  have hB := fun W => print_any W b hb
  have hEQ := fun W => eq_print (printN a) (printN b) W
  have hB0 : Nodes2 w a b ((w.alloc (.cells a.c 54)).alloc (.cells b.c 54)) := ⟨blk_fst _ _ _ _, blk_snd _ _ _ _, ((Below.refl _ _).alloc (Nat.le_refl _) _).alloc (by simp) _⟩
  have HB0 := Lib.hid hB0; clear hB0
  generalize printN a = p at *
  generalize printN b = q at *
  generalize decide (p = q) = r at *
  have q0 : ∀ x : Held (Nodes2 w a b), (HeldW x).cell? ⟨w.heap.size, 0, none⟩ = some (.int .i64 a.kind) := fun x => ((HeldW_spec x).1).cell 0
  have q1 : ∀ x : Held (Nodes2 w a b), (HeldW x).cell? ⟨w.heap.size, 1, none⟩ = some (.int .i64 a.mode) := fun x => ((HeldW_spec x).1).cell 1
  have q2 : ∀ x : Held (Nodes2 w a b), (HeldW x).cell? ⟨w.heap.size, 2, none⟩ = some (.int .u32 a.time) := fun x => ((HeldW_spec x).1).cell 2
  have q3 : ∀ x : Held (Nodes2 w a b), (HeldW x).cell? ⟨w.heap.size, 3, none⟩ = some (.string a.data) := fun x => ((HeldW_spec x).1).cell 3
  have n0 : ∀ x : Held (Nodes2 w a b), (HeldW x).cell? ⟨w.heap.size + 1, 0, none⟩ = some (.int .i64 b.kind) := fun x => ((HeldW_spec x).2.1).cell 0
  have n1 : ∀ x : Held (Nodes2 w a b), (HeldW x).cell? ⟨w.heap.size + 1, 1, none⟩ = some (.int .i64 b.mode) := fun x => ((HeldW_spec x).2.1).cell 1
  have n2 : ∀ x : Held (Nodes2 w a b), (HeldW x).cell? ⟨w.heap.size + 1, 2, none⟩ = some (.int .u32 b.time) := fun x => ((HeldW_spec x).2.1).cell 2
  have n3 : ∀ x : Held (Nodes2 w a b), (HeldW x).cell? ⟨w.heap.size + 1, 3, none⟩ = some (.string b.data) := fun x => ((HeldW_spec x).2.1).cell 3
  haveI : Nonempty (Held (Nodes2 w a b)) := held_some HB0.out
  unfold Nd.c Pr.c at *
  have HA := Lib.hid hA; clear hA
  have HB := Lib.hid hB; clear hB
  go_enter Tryz.func55, Tryz.ntmps55
  go_wp2_with fail
  refine wp_region_class (Nodes2 w a b) (by kernel_rfl) (by kernel_rfl) (by have h := HB0.out; exact ⟨h.1, h.2.1, h.2.2.drew⟩) ?_
  repeat (go_big_quiet_step (first | with_reducible exact held_below Nodes2.keep (HA.out _) | with_reducible exact held_below Nodes2.keep (HB.out _)))
  refine wpQuiet_nil ?_
  rintro _ ⟨nn, rfl⟩
  go_wp2_with fail
  go_ret
  exact ⟨rfl, (HeldW_spec nn).2.2⟩
end Go.Proofs.YtihiakkeloejlaaGreatDoor
/- Deciding, plainly: both sides the other way round. -/
set_option linter.unusedVariables false
set_option linter.unusedSimpArgs false
namespace Sw
open Go
/-- what is decided of a path -/
structure StR where
  path : ByteArray
  verdict : Int
  cls : Int
  left : Nd
  right : Nd
def stepR (L : List MkE) (xs ys : List NE) (p : ByteArray) : StR :=
  ⟨p, (decideN ((findM L p).getD ⟨0, 0, 0, 0, 0⟩) (findM L p).isSome (getT xs p) (getT ys p)).1, (decideN ((findM L p).getD ⟨0, 0, 0, 0, 0⟩) (findM L p).isSome (getT xs p) (getT ys p)).2, getT xs p, getT ys p⟩
def allR (L : List MkE) (xs ys : List NE) : List StR := (pathsS (L.map Prod.fst ++ xs.map Prod.fst ++ ys.map Prod.fst)).map (stepR L xs ys)
theorem paths_turn (a b c : List ByteArray) : pathsS (a ++ b ++ c) = pathsS (a ++ c ++ b) :=
  rise_ext (pathsS_rise _) (pathsS_rise _) (fun q => by
    rw [pathsS_mem, pathsS_mem]
    simp only [List.mem_append]
    exact ⟨fun h => by rcases h with (h | h) | h; exact .inl (.inl h); exact .inr h; exact .inl (.inr h), fun h => by rcases h with (h | h) | h; exact .inl (.inl h); exact .inr h; exact .inl (.inr h)⟩)
theorem getT_zero {xs : List NE} (h : TI xs) (p : ByteArray) (hk : (getT xs p).kind = 0) : getT xs p = ndZ := by
  rcases Classical.em (∃ e ∈ xs, e.1 = p) with ⟨e, he, rfl⟩ | hn
  · rw [getT_in h.up he] at hk
    exact absurd hk (h.nod e he).1
  · exact getT_out h.up (fun e he h => hn ⟨e, he, h⟩)
/-- the other way round -/
theorem decide_turn (was : Pr) (had : Bool) (a b : Nd) (ha : a.kind = 0 → a = ndZ) (hb : b.kind = 0 → b = ndZ) :
    (decideN was had b a).2 = (decideN was had a b).2 ∧ ((decideN was had a b).1 = 1 ∧ (decideN was had b a).1 = 2 ∨ (decideN was had a b).1 = 2 ∧ (decideN was had b a).1 = 1 ∨ (decideN was had a b).1 = (decideN was had b a).1 ∧ ¬ (decideN was had a b).1 = 1 ∧ ¬ (decideN was had a b).1 = 2) := by
  unfold decideN
  by_cases h1 : printN a = printN b
  · rw [if_pos h1, if_pos h1.symm]; simp
  · have h1' : ¬ printN b = printN a := fun h => h1 h.symm
    rw [if_neg h1, if_neg h1']
    have both : stateN was had a = 0 → ¬ stateN was had b = 0 := fun h2 h3 => by
      unfold stateN at h2 h3
      cases had with
      | false =>
        simp only [if_true] at h2 h3
        have e1 : a.kind = 0 := by
          by_cases h : a.kind = 0
          · exact h
          · rw [if_neg h] at h2; cases h2
        have e2 : b.kind = 0 := by
          by_cases h : b.kind = 0
          · exact h
          · rw [if_neg h] at h3; cases h3
        exact h1 (by rw [ha e1, hb e2])
      | true =>
        simp only [Bool.true_eq_false, if_false] at h2 h3
        have e1 : was = printN a := by
          by_cases h : was = printN a
          · exact h
          · rw [if_neg h] at h2; split at h2 <;> cases h2
        have e2 : was = printN b := by
          by_cases h : was = printN b
          · exact h
          · rw [if_neg h] at h3; split at h3 <;> cases h3
        exact h1 (e1.symm.trans e2)
    by_cases h2 : stateN was had a = 0
    · have h3 := both h2; simp [h2, h3]
    · by_cases h3 : stateN was had b = 0
      · simp [h2, h3]
      · simp only [if_neg h2, if_neg h3]
        have hc : classN b a = classN a b := by
          unfold classN
          by_cases e1 : a.kind = 0 ∨ b.kind = 0
          · rw [if_pos e1, if_pos (Or.symm e1)]
          · rw [if_neg e1, if_neg (fun h => e1 (Or.symm h))]
            by_cases e2 : a.kind = b.kind
            · rw [if_neg (by simpa using e2.symm), if_neg (by simpa using e2)]
            · rw [if_pos (fun h => e2 h.symm), if_pos e2]
        simp [hc]
theorem decide_self (was : Pr) (had : Bool) (a : Nd) : decideN was had a a = (0, 0) := by
  unfold decideN
  rw [if_pos rfl]
end Sw
/- How two trees differ, plainly; the other way round. -/
set_option linter.unusedVariables false
set_option linter.unusedSimpArgs false
namespace Sw
open Go
/-- how many of one row find their like in another one, each taken once -/
def matchN {κ : Type} [DecidableEq κ] : List κ → List κ → Nat
  | [], _ => 0
  | a :: us, rs => if a ∈ rs then matchN us (rs.erase a) + 1 else matchN us rs
section
variable {κ : Type} [DecidableEq κ]
theorem matchN_nil : ∀ us : List κ, matchN us [] = 0
  | [] => rfl
  | a :: us => by unfold matchN; rw [if_neg (by simp)]; exact matchN_nil us
theorem matchN_cons : ∀ (us : List κ) (r : κ) (rs : List κ), matchN us (r :: rs) = if r ∈ us then matchN (us.erase r) rs + 1 else matchN us rs
  | [], r, rs => by unfold matchN; simp
  | a :: us, r, rs => by
    by_cases har : a = r
    · subst har
      rw [if_pos (by simp)]
      unfold matchN
      rw [if_pos (by simp), List.erase_cons_head, List.erase_cons_head]
      cases us <;> rfl
    · have hra : ¬ r = a := fun e => har e.symm
      have ih := matchN_cons us r
      by_cases hr : r ∈ us
      · rw [if_pos (by simp [hr])]
        have e1 : (a :: us).erase r = a :: us.erase r := by rw [List.erase_cons_tail (by simpa using har)]
        rw [e1]
        by_cases ha : a ∈ rs
        · conv => lhs; unfold matchN
          conv => rhs; unfold matchN
          rw [if_pos (by simp [ha]), if_pos ha, List.erase_cons_tail (by simpa using hra), ih (rs.erase a), if_pos hr]
        · conv => lhs; unfold matchN
          conv => rhs; unfold matchN
          rw [if_neg (by simp [ha, har]), if_neg ha, ih rs, if_pos hr]
      · rw [if_neg (by simp [hr, hra])]
        by_cases ha : a ∈ rs
        · conv => lhs; unfold matchN
          conv => rhs; unfold matchN
          rw [if_pos (by simp [ha]), if_pos ha, List.erase_cons_tail (by simpa using hra), ih (rs.erase a), if_neg hr]
        · conv => lhs; unfold matchN
          conv => rhs; unfold matchN
          rw [if_neg (by simp [ha, har]), if_neg ha, ih rs, if_neg hr]
/-- either way round it is the same -/
theorem matchN_comm : ∀ (us rs : List κ), matchN us rs = matchN rs us
  | [], rs => by rw [matchN_nil]; rfl
  | a :: us, rs => by
    rw [matchN_cons rs a us, show matchN (a :: us) rs = if a ∈ rs then matchN us (rs.erase a) + 1 else matchN us rs from rfl]
    by_cases h : a ∈ rs
    · rw [if_pos h, if_pos h, matchN_comm us (rs.erase a)]
    · rw [if_neg h, if_neg h, matchN_comm us rs]
end
/-- how two nodes of one path differ -/
def kindP (a b : Nd) : Int := if printN a = printN b then 0 else if a.kind = 0 then 1 else if b.kind = 0 then 2 else if a.kind = b.kind then 3 else 5
def swapK (k : Int) : Int := if k = 1 then 2 else if k = 2 then 1 else k
abbrev ChE := Int × ByteArray
def eachE (xs ys : List NE) (p : ByteArray) : Option ChE := if kindP (getT xs p) (getT ys p) = 0 then none else some (kindP (getT xs p) (getT ys p), p)
/-- how two trees differ, path by path -/
def eachP (xs ys : List NE) : List ChE := (pathsS (xs.map Prod.fst ++ ys.map Prod.fst)).filterMap (eachE xs ys)
theorem pathsS_comm (a b : List ByteArray) : pathsS (a ++ b) = pathsS (b ++ a) :=
  rise_ext (pathsS_rise _) (pathsS_rise _) (fun q => by rw [pathsS_mem, pathsS_mem, List.mem_append, List.mem_append]; exact Or.comm)
theorem kindP_swap (a b : Nd) (h : ¬ printN a = printN b → ¬ (a.kind = 0 ∧ b.kind = 0)) : kindP b a = swapK (kindP a b) := by
  unfold kindP swapK
  by_cases h1 : printN a = printN b
  · rw [if_pos h1, if_pos h1.symm]; rfl
  · have h2 := h h1
    rw [if_neg h1, if_neg (fun e => h1 e.symm)]
    by_cases ha : a.kind = 0
    · have hb : ¬ b.kind = 0 := fun e => h2 ⟨ha, e⟩
      simp [ha, hb]
    · by_cases hb : b.kind = 0
      · simp [ha, hb]
      · by_cases hab : a.kind = b.kind
        · simp [hb, hab]
        · have hba : ¬ b.kind = a.kind := fun e => hab e.symm
          simp [ha, hb, hab, hba]
theorem getT_kindD {xs : List NE} (h : TI xs) {p : ByteArray} (hk : (getT xs p).kind = 0) : p ∉ xs.map Prod.fst := by
  intro hm
  obtain ⟨e, he, rfl⟩ := List.mem_map.1 hm
  rw [getT_in h.up he] at hk
  exact (h.nod e he).1 hk
/-- the other way round -/
theorem eachP_swap {xs ys : List NE} (hx : TI xs) (hy : TI ys) : eachP ys xs = (eachP xs ys).map fun c => (swapK c.1, c.2) := by
  unfold eachP
  rw [pathsS_comm, List.map_filterMap]
  have hall : ∀ p ∈ pathsS (xs.map Prod.fst ++ ys.map Prod.fst), eachE ys xs p = (eachE xs ys p).map fun c => (swapK c.1, c.2) := fun p hp => by
    rw [pathsS_mem, List.mem_append] at hp
    have hs := kindP_swap (getT xs p) (getT ys p) (fun _ h => hp.elim (getT_kindD hx h.1) (getT_kindD hy h.2))
    unfold eachE
    rw [hs]
    by_cases h0 : kindP (getT xs p) (getT ys p) = 0
    · rw [if_pos h0, if_pos (by rw [h0]; rfl)]; rfl
    · rw [if_neg h0, if_neg (fun e => h0 (by unfold swapK at e; split at e <;> (try split at e) <;> simp_all))]; rfl
  generalize pathsS (xs.map Prod.fst ++ ys.map Prod.fst) = ps at *
  induction ps with
  | nil => rfl
  | cons p ps ih =>
    rw [List.filterMap_cons, List.filterMap_cons, hall p (List.mem_cons_self ..), ih (fun q hq => hall q (List.mem_cons_of_mem _ hq))]
/-- is a node a file with bytes? -/
def fileN (n : Nd) : Bool := decide (n.kind = 1 ∧ ¬ n.data = ⟨#[]⟩)
def goneP (xs ys : List NE) : List ByteArray := ((eachP xs ys).filter fun c => decide (c.1 = 2) && fileN (getT xs c.2)).map Prod.snd
def cameP (xs ys : List NE) : List ByteArray := ((eachP xs ys).filter fun c => decide (c.1 = 1) && fileN (getT ys c.2)).map Prod.snd
/-- what moved: each file that came takes the first one that is gone and was its like -/
def mvP (f g : ByteArray → Pr) : List ByteArray → List ByteArray → List (ByteArray × ByteArray)
  | [], _ => []
  | a :: us, G => match G.find? (fun r => decide (g r = f a)) with
    | some r => (a, r) :: mvP f g us (G.eraseP fun r => decide (g r = f a))
    | none => mvP f g us G
theorem map_eraseP {g : ByteArray → Pr} {k : Pr} : ∀ G : List ByteArray, (G.eraseP fun r => decide (g r = k)).map g = (G.map g).erase k
  | [] => rfl
  | r :: G => by
    by_cases h : g r = k
    · rw [List.eraseP_cons_of_pos (by simpa using h), List.map_cons, h, List.erase_cons_head]
    · rw [List.eraseP_cons_of_neg (by simpa using h), List.map_cons, List.map_cons, List.erase_cons_tail (by simpa using h), map_eraseP G]
theorem mvP_len (f g : ByteArray → Pr) : ∀ (us G : List ByteArray), (mvP f g us G).length = matchN (us.map f) (G.map g)
  | [], G => rfl
  | a :: us, G => by
    unfold mvP
    rw [List.map_cons, show matchN (f a :: us.map f) (G.map g) = if f a ∈ G.map g then matchN (us.map f) ((G.map g).erase (f a)) + 1 else matchN (us.map f) (G.map g) from rfl]
    cases h : G.find? (fun r => decide (g r = f a)) with
    | none =>
      rw [if_neg (fun hm => by
        obtain ⟨r, hr, e⟩ := List.mem_map.1 hm
        have := List.find?_eq_none.1 h r hr
        exact this (by simpa using e))]
      exact mvP_len f g us G
    | some r =>
      have h1 := List.mem_of_find?_eq_some h
      have h2 := List.find?_some h
      rw [if_pos (List.mem_map.2 ⟨r, h1, by simpa using h2⟩), List.length_cons, mvP_len f g us, map_eraseP]
def movesP (xs ys : List NE) : List (ByteArray × ByteArray) := mvP (fun p => printN (getT ys p)) (fun p => printN (getT xs p)) (cameP xs ys) (goneP xs ys)
theorem filter_swap (xs ys : List NE) (k : Int) (f : ByteArray → Bool) : (((eachP xs ys).map fun c => (swapK c.1, c.2)).filter fun c => decide (c.1 = k) && f c.2).map Prod.snd = ((eachP xs ys).filter fun c => decide (swapK c.1 = k) && f c.2).map Prod.snd := by
  generalize eachP xs ys = E
  induction E with
  | nil => rfl
  | cons c E ih =>
    rw [List.map_cons]
    by_cases h : (decide (swapK c.1 = k) && f c.2) = true
    · rw [List.filter_cons_of_pos (by exact h), List.filter_cons_of_pos (by exact h), List.map_cons, List.map_cons, ih]
    · rw [List.filter_cons_of_neg (by exact h), List.filter_cons_of_neg (by exact h), ih]
theorem swap_two (k : Int) : decide (swapK k = 2) = decide (k = 1) := by
  unfold swapK
  by_cases h1 : k = 1
  · simp [h1]
  · by_cases h2 : k = 2
    · simp [h2]
    · simp [h1, h2]
theorem swap_one (k : Int) : decide (swapK k = 1) = decide (k = 2) := by
  unfold swapK
  by_cases h1 : k = 1
  · simp [h1]
  · by_cases h2 : k = 2
    · simp [h2]
    · simp [h1, h2]
theorem gone_swap {xs ys : List NE} (hx : TI xs) (hy : TI ys) : goneP ys xs = cameP xs ys := by
  unfold goneP cameP
  rw [eachP_swap hx hy, filter_swap xs ys 2 (fun p => fileN (getT ys p))]
  simp only [swap_two]
theorem came_swap {xs ys : List NE} (hx : TI xs) (hy : TI ys) : cameP ys xs = goneP xs ys := by
  unfold goneP cameP
  rw [eachP_swap hx hy, filter_swap xs ys 1 (fun p => fileN (getT xs p))]
  simp only [swap_one]
/-- as many move back as moved -/
theorem moves_swap {xs ys : List NE} (hx : TI xs) (hy : TI ys) : (movesP ys xs).length = (movesP xs ys).length := by
  unfold movesP
  rw [mvP_len, mvP_len, gone_swap hx hy, came_swap hx hy, matchN_comm]
end Sw
