/- Several texts, joined for the limit of sixty files; each one opens with its own comment. -/
import Derived.Test.YtmpgmgjokliceaaGreatDoorJoin8
import Derived.Test.YtmpgmgjokliceaaGreatDoorJoin19
import Derived.Test.YtmpgmgjokliceaaGreatDoorJoin20
import Derived.Test.YtmpgmgjokliceaaGreatDoorJoin18
import Derived.Test.YtmpgmgjokliceaaGreatDoorJoin5
/- Detecting, plainly: sets of paths, prints of marks. -/
set_option linter.unusedVariables false
set_option linter.unusedSimpArgs false
namespace Sw
open Go
abbrev MkE := ByteArray × Pr
abbrev SbE := ByteArray × Bool
/-- paths put into a set -/
def setP (X : List SbE) (ps : List ByteArray) : List SbE := ps.foldl (fun X p => putN ordS p true X) X
theorem setP_app (X : List SbE) (a b : List ByteArray) : setP X (a ++ b) = setP (setP X a) b := by unfold setP; rw [List.foldl_append]
theorem setP_step (X : List SbE) (ps : List ByteArray) (i : Nat) (h : i < ps.length) : setP X (ps.take (i + 1)) = putN ordS ps[i] true (setP X (ps.take i)) := by
  rw [List.take_succ_eq_append_getElem h, setP_app]
  rfl
theorem setP_up : ∀ (ps : List ByteArray) (X : List SbE), Up ordS X → Up ordS (setP X ps)
  | [], _, h => h
  | p :: ps, X, h => setP_up ps _ (put_up ordS_ord p true X h)
theorem setP_len : ∀ (ps : List ByteArray) (X : List SbE), (setP X ps).length ≤ X.length + ps.length
  | [], _ => Nat.le_refl _
  | p :: ps, X => by
    have h1 := setP_len ps (putN ordS p true X)
    have h2 := put_len (c := ordS) p true X
    have h3 : (putN ordS p true X).length ≤ X.length + 1 := by rw [h2]; split <;> omega
    simp only [List.length_cons]
    exact Nat.le_trans h1 (by omega)
theorem put_keys (p : ByteArray) (v : Bool) (X : List SbE) (h : Up ordS X) (q : ByteArray) : q ∈ (putN ordS p v X).map Prod.fst ↔ q = p ∨ q ∈ X.map Prod.fst := by
  rw [put_filter ordS_ord p v X h]
  simp only [List.map_append, List.mem_append, List.map_cons, List.mem_cons, List.mem_map, List.mem_filter, decide_eq_true_eq]
  constructor
  · rintro (⟨e, he, rfl⟩ | rfl | ⟨e, he, rfl⟩)
    · exact .inr ⟨e, he.1, rfl⟩
    · exact .inl rfl
    · exact .inr ⟨e, he.1, rfl⟩
  · rintro (rfl | ⟨e, he, rfl⟩)
    · exact .inr (.inl rfl)
    · by_cases h1 : ordS e.1 p < 0
      · exact .inl ⟨e, ⟨he, h1⟩, rfl⟩
      · by_cases h2 : ordS e.1 p = 0
        · exact .inr (.inl (ordS_ord.zero _ _ h2))
        · exact .inr (.inr ⟨e, ⟨he, by omega⟩, rfl⟩)
theorem setP_keys : ∀ (ps : List ByteArray) (X : List SbE), Up ordS X → ∀ q, q ∈ (setP X ps).map Prod.fst ↔ q ∈ ps ∨ q ∈ X.map Prod.fst
  | [], _, _, q => by simp [setP]
  | p :: ps, X, h, q => by
    have h1 := setP_keys ps _ (put_up ordS_ord p true X h) q
    have h2 := put_keys p true X h q
    show q ∈ (setP (putN ordS p true X) ps).map Prod.fst ↔ _
    rw [h1, h2, List.mem_cons]
    constructor
    · rintro (h | h | h)
      · exact .inl (.inr h)
      · exact .inl (.inl h)
      · exact .inr h
    · rintro ((h | h) | h)
      · exact .inr (.inl h)
      · exact .inl h
      · exact .inr (.inr h)
/-- paths that rise -/
def Rise (l : List ByteArray) : Prop := l.Pairwise fun a b => ordS a b < 0
theorem rise_keys {β : Type} {X : List (ByteArray × β)} (h : Up ordS X) : Rise (X.map Prod.fst) := by
  unfold Rise
  rw [List.pairwise_map]
  exact h
theorem rise_ext : ∀ {l m : List ByteArray}, Rise l → Rise m → (∀ q, q ∈ l ↔ q ∈ m) → l = m
  | [], [], _, _, _ => rfl
  | [], b :: m, _, _, h => absurd ((h b).2 (List.mem_cons_self ..)) (by simp)
  | a :: l, [], _, _, h => absurd ((h a).1 (List.mem_cons_self ..)) (by simp)
  | a :: l, b :: m, hl, hm, h => by
    have irr : ∀ x, ¬ ordS x x < 0 := fun x => by have := ordS_ord.self x; omega
    have ha := (List.pairwise_cons.1 hl).1
    have hb := (List.pairwise_cons.1 hm).1
    have hab : a = b := by
      rcases List.mem_cons.1 ((h a).1 (List.mem_cons_self ..)) with e | e
      · exact e
      · rcases List.mem_cons.1 ((h b).2 (List.mem_cons_self ..)) with e2 | e2
        · exact e2.symm
        · exact absurd (ordS_ord.trans _ _ _ (hb a e) (ha b e2)) (irr b)
    subst hab
    rw [rise_ext (List.pairwise_cons.1 hl).2 (List.pairwise_cons.1 hm).2 (fun q => ?_)]
    constructor
    · intro hq
      rcases List.mem_cons.1 ((h q).1 (List.mem_cons_of_mem _ hq)) with e | e
      · subst e; exact absurd (ha _ hq) (irr _)
      · exact e
    · intro hq
      rcases List.mem_cons.1 ((h q).2 (List.mem_cons_of_mem _ hq)) with e | e
      · subst e; exact absurd (hb _ hq) (irr _)
      · exact e
/-- the paths of a row of paths, each once, in order -/
def pathsS (ps : List ByteArray) : List ByteArray := (setP [] ps).map Prod.fst
theorem pathsS_rise (ps : List ByteArray) : Rise (pathsS ps) := rise_keys (setP_up ps [] List.Pairwise.nil)
theorem pathsS_mem (ps : List ByteArray) (q : ByteArray) : q ∈ pathsS ps ↔ q ∈ ps := by
  unfold pathsS
  rw [setP_keys ps [] List.Pairwise.nil]
  simp
theorem pathsS_len (ps : List ByteArray) : (pathsS ps).length ≤ ps.length := by
  unfold pathsS
  rw [List.length_map]
  simpa using setP_len ps []
/-- whatever rises and has the same paths is it -/
theorem pathsS_eq {ps l : List ByteArray} (hl : Rise l) (h : ∀ q, q ∈ l ↔ q ∈ ps) : pathsS ps = l := rise_ext (pathsS_rise ps) hl (fun q => by rw [pathsS_mem, h])
/-- the first print at a path -/
def findM (L : List MkE) (p : ByteArray) : Option Pr := (L.find? fun m => decide (m.1 = p)).map Prod.snd
theorem findM_cons (m : MkE) (L : List MkE) (p : ByteArray) : findM (m :: L) p = if m.1 = p then some m.2 else findM L p := by
  unfold findM
  by_cases h : m.1 = p
  · rw [if_pos h, List.find?_cons_of_pos (by simpa using h)]; rfl
  · rw [if_neg h, List.find?_cons_of_neg (by simpa using h)]
/-- the marks of a tree's row -/
def marksT (xs : List NE) : List MkE := xs.map fun e => (e.1, printN e.2)
/-- what became of a path -/
def ofP (L : List MkE) (xs : List NE) (p : ByteArray) : Int := stateN ((findM L p).getD ⟨0, 0, 0, 0, 0⟩) (findM L p).isSome (getT xs p)
theorem findM_up : ∀ {L : List MkE}, Up ordS L → ∀ {m : MkE}, m ∈ L → findM L m.1 = some m.2
  | [], _, m, h => by cases h
  | a :: L, hu, m, h => by
    rw [findM_cons]
    rcases List.mem_cons.1 h with e | e
    · subst e; rw [if_pos rfl]
    · have h1 := hu.head m e
      have hne : ¬ a.1 = m.1 := fun e' => by rw [e'] at h1; have := ordS_ord.self m.1; omega
      rw [if_neg hne]
      exact findM_up hu.tail e
theorem findM_none {L : List MkE} {p : ByteArray} (h : ∀ m ∈ L, ¬ m.1 = p) : findM L p = none := by
  unfold findM
  rw [List.find?_eq_none.2 (fun m hm => by simpa using h m hm)]
  rfl
theorem marksT_up {xs : List NE} (h : Up ordS xs) : Up ordS (marksT xs) := by
  unfold marksT Up
  rw [List.pairwise_map]
  exact h
theorem marksT_keys (xs : List NE) : (marksT xs).map Prod.fst = xs.map Prod.fst := by
  unfold marksT
  rw [List.map_map]
  rfl
/-- what became of all paths -/
def allP (L : List MkE) (xs : List NE) : List (ByteArray × Int) := (pathsS (L.map Prod.fst ++ xs.map Prod.fst)).map fun p => (p, ofP L xs p)
theorem ofP_self {xs : List NE} (h : TI xs) {e : NE} (he : e ∈ xs) : ofP (marksT xs) xs e.1 = 0 := by
  unfold ofP
  have hm : (e.1, printN e.2) ∈ marksT xs := List.mem_map_of_mem he
  have h1 := findM_up (marksT_up h.up) hm
  dsimp only at h1
  rw [h1, getT_in h.up he]
  unfold stateN
  simp
theorem ofP_nil {xs : List NE} (h : TI xs) {e : NE} (he : e ∈ xs) : ofP [] xs e.1 = 1 := by
  unfold ofP
  rw [show findM [] e.1 = none from rfl, getT_in h.up he]
  unfold stateN
  simp [(h.nod e he).1]
theorem allP_self {xs : List NE} (h : TI xs) : allP (marksT xs) xs = xs.map fun e => (e.1, 0) := by
  unfold allP
  rw [marksT_keys, pathsS_eq (rise_keys h.up) (fun q => by simp), List.map_map]
  exact List.map_congr_left fun e he => by show (e.1, ofP (marksT xs) xs e.1) = _; rw [ofP_self h he]
theorem allP_nil {xs : List NE} (h : TI xs) : allP [] xs = xs.map fun e => (e.1, 1) := by
  unfold allP
  rw [List.map_nil, List.nil_append, pathsS_eq (rise_keys h.up) (fun q => Iff.rfl), List.map_map]
  exact List.map_congr_left fun e he => by show (e.1, ofP [] xs e.1) = _; rw [ofP_nil h he]
theorem dropN_mem {xs : List NE} (hu : Up ordS xs) {p : ByteArray} (e : NE) : e ∈ dropN ordS p xs ↔ e ∈ xs ∧ ¬ e.1 = p := by
  rw [drop_filter ordS_ord p xs hu, List.mem_filter]
  simp [ordS_ord.iff]
/-- with one path dropped, that one is gone -/
theorem allP_drop {xs : List NE} (h : TI xs) {x : NE} (hx : x ∈ xs) : (allP (marksT xs) (dropN ordS x.1 xs)).filter (fun f => !decide (f.2 = 0)) = [(x.1, 3)] := by
  have hu := drop_up ordS_ord x.1 xs h.up
  have hp : pathsS ((marksT xs).map Prod.fst ++ (dropN ordS x.1 xs).map Prod.fst) = xs.map Prod.fst := by
    rw [marksT_keys]
    refine pathsS_eq (rise_keys h.up) fun q => ?_
    rw [List.mem_append]
    refine ⟨.inl, ?_⟩
    rintro (hq | hq)
    · exact hq
    · obtain ⟨e, he, rfl⟩ := List.mem_map.1 hq
      exact List.mem_map_of_mem ((dropN_mem h.up e).1 he).1
  have hof : ∀ e ∈ xs, ofP (marksT xs) (dropN ordS x.1 xs) e.1 = if e.1 = x.1 then 3 else 0 := fun e he => by
    unfold ofP
    have hm : (e.1, printN e.2) ∈ marksT xs := List.mem_map_of_mem he
    have h1 := findM_up (marksT_up h.up) hm
    dsimp only at h1
    rw [h1]
    by_cases hk : e.1 = x.1
    · rw [if_pos hk, getT_out hu (fun d hd => by rw [hk]; exact ((dropN_mem h.up d).1 hd).2)]
      unfold stateN
      have hne : ¬ printN e.2 = printN ndZ := fun e' => (h.nod e he).1 (by have := congrArg Pr.kind e'; simpa [printN, ndZ] using this)
      simp only [Option.isSome_some, Option.getD_some]
      rw [if_neg (by simp), if_neg hne]
      rfl
    · rw [if_neg hk, getT_in hu ((dropN_mem h.up e).2 ⟨he, hk⟩)]
      unfold stateN
      simp
  unfold allP
  rw [hp, List.map_map, List.filter_map]
  have hfe : xs.filter ((fun f : ByteArray × Int => !decide (f.2 = 0)) ∘ ((fun p => (p, ofP (marksT xs) (dropN ordS x.1 xs) p)) ∘ Prod.fst)) = xs.filter fun e => decide (e.1 = x.1) := by
    refine List.filter_congr fun e he => ?_
    show (!decide (ofP (marksT xs) (dropN ordS x.1 xs) e.1 = 0)) = decide (e.1 = x.1)
    rw [hof e he]
    by_cases hk : e.1 = x.1
    · rw [if_pos hk]; simp [hk]
    · rw [if_neg hk]; simp [hk]
  rw [hfe]
  have hone : ∀ (l : List NE), Up ordS l → x ∈ l → l.filter (fun e => decide (e.1 = x.1)) = [x] := by
    intro l
    induction l with
    | nil => intro _ hm; cases hm
    | cons a l ih =>
      intro hl hm
      by_cases ha : a.1 = x.1
      · have hax : a = x := up_key hl (List.mem_cons_self ..) hm ha
        rw [List.filter_cons_of_pos (by simpa using ha), List.filter_eq_nil_iff.2 (fun e he => by
          have h1 := hl.head e he
          have : ¬ e.1 = x.1 := fun e' => by rw [e', ha] at h1; have := ordS_ord.self x.1; omega
          simpa using this), hax]
      · rw [List.filter_cons_of_neg (by simpa using ha)]
        rcases List.mem_cons.1 hm with e | e
        · exact absurd (by rw [e]) ha
        · exact ih hl.tail e
  rw [hone xs h.up hx]
  show [(x.1, ofP (marksT xs) (dropN ordS x.1 xs) x.1)] = _
  rw [hof x hx, if_pos rfl]
end Sw
/- The steps of a plan, plainly. -/
set_option linter.unusedVariables false
set_option linter.unusedSimpArgs false
namespace Sw
open Go
/-- what is done at a path -/
structure StepP where
  path : ByteArray
  node : Nd
  graft : Bool
  items : List NE
/-- is p one of some, or under one? -/
def insideN (tops : List ByteArray) (p : ByteArray) : Bool := tops.any fun t => decide (t = p) || inS (upsS p) t
/-- paths that are right, and not under others -/
def topKeep (l : List ByteArray) (p : ByteArray) : Bool := rightL p.data.toList && !l.any fun t => inS (upsS p) t && rightL t.data.toList
def topsN (l : List ByteArray) : List ByteArray := l.filter (topKeep l)
def isTop (tops : List ByteArray) (p : ByteArray) : Bool := tops.any fun t => decide (t = p)
/-- the same items, by their prints? -/
def alikeN (x y : NE) : Bool := decide (x.1 = y.1) && decide (printN x.2 = printN y.2)
def sameN : List NE → List NE → Bool
  | [], [] => true
  | x :: a, y :: b => alikeN x y && sameN a b
  | _, _ => false
end Sw
namespace Go.Proofs.YtmpgmgjokliceaaGreatDoor
open Go Go.RowKit
open Sw
/-- what goes -/
def awayN (xs ys : List NE) (tops : List ByteArray) (p : ByteArray) : Option StepP :=
  if isTop tops p = true ∧ ¬ undT p xs = [] ∧ undT p ys = [] then some ⟨p, ndZ, true, []⟩
  else if insideN tops p = true then none
  else if ¬ (getT xs p).kind = 0 ∧ (getT ys p).kind = 0 then some ⟨p, ndZ, false, []⟩
  else none
/-- what comes -/
def comeN (xs ys : List NE) (tops : List ByteArray) (p : ByteArray) : Option StepP :=
  if isTop tops p = true ∧ ¬ undT p ys = [] ∧ sameN (undT p xs) (undT p ys) = false then some ⟨p, ndZ, true, undT p ys⟩
  else if insideN tops p = true then none
  else if ¬ (getT ys p).kind = 0 ∧ ¬ printN (getT xs p) = printN (getT ys p) then some ⟨p, getT ys p, false, []⟩
  else none
def pathsN (xs ys : List NE) (tops : List ByteArray) : List ByteArray := pathsS (xs.map Prod.fst ++ ys.map Prod.fst ++ tops)
/-- the steps -/
def planN (xs ys : List NE) (tops : List ByteArray) : List StepP := (pathsN xs ys tops).reverse.filterMap (awayN xs ys tops) ++ (pathsN xs ys tops).filterMap (comeN xs ys tops)
end Go.Proofs.YtmpgmgjokliceaaGreatDoor
/- plan.tops and plan.Inside. -/
set_option linter.unusedVariables false
set_option linter.unusedSimpArgs false
namespace Go.Proofs.YtmpgmgjokliceaaGreatDoor
open Go Go.RowKit
open Sw
theorem str32 (s t : ByteArray) : (s.toList == t.toList) = decide (s = t) := by
  rw [ByteArray.toList_eq, ByteArray.toList_eq]
  by_cases h : s = t
  · subst h
    rw [decide_eq_true rfl]
    simp
  · rw [decide_eq_false h, beq_eq_false_iff_ne]
    intro e
    exact h (ByteArray.ext (Array.ext' e))
set_option maxRecDepth 100000 in
theorem above_any (w : World) (g : Nat) (p t : ByteArray) (hp : p.size ≤ 90000) (ht : t.size ≤ 90000) (hg : Blk w g 9 #[.string p]) :
    Calls Tryz.prog 86 #[.string t, .pointer (some ⟨g, 0, none⟩)] w fun e w' => e = .returned (.bool (inS (upsS p) t && rightL t.data.toList)) ∧ Below w.heap.size w w' := by
  have HU := Lib.hid (under_any w t p hp)
  have HR := Lib.hid (fun W => right_any W t (by omega))
  have x0 := hg.cell 0
  simp only [List.getElem?_toArray, List.getElem?_cons_zero] at x0
  clear hg
  generalize inS (upsS p) t = U at *
  generalize rightL t.data.toList = R at *
  go_enter Tryz.func86, Tryz.ntmps86
  go_wp2_with fail
  refine HU.out.mono ?_
  rintro e w1 ⟨rfl, hb1⟩
  have H1 := Lib.hid hb1
  clear hb1 x0 HU
  cases U with
  | false =>
    go_wp2_with fail
    go_ret
    exact ⟨rfl, H1.out⟩
  | true =>
    go_wp2_with fail
    refine (HR.out w1).mono ?_
    rintro e w2 ⟨rfl, hb2⟩
    have H2 := Lib.hid (H1.out.trans (hb2.mono H1.out.size))
    clear hb2 HR
    go_wp2_with fail
    go_ret
    exact ⟨by simp, H2.out⟩
set_option maxRecDepth 100000 in
theorem inside1_any (w : World) (g : Nat) (p t : ByteArray) (hp : p.size ≤ 90000) (hg : Blk w g 9 #[.string p]) :
    Calls Tryz.prog 49 #[.string t, .pointer (some ⟨g, 0, none⟩)] w fun e w' => e = .returned (.bool (decide (t = p) || inS (upsS p) t)) ∧ Below w.heap.size w w' := by
  have HU := Lib.hid (under_any w t p hp)
  have x0 := hg.cell 0
  simp only [List.getElem?_toArray, List.getElem?_cons_zero] at x0
  have hs := str32 t p
  clear hg
  generalize inS (upsS p) t = U at *
  generalize decide (t = p) = D at *
  cases D with
  | true =>
    go_enter Tryz.func49, Tryz.ntmps49
    go_wp2_with fail
    go_ret
    exact ⟨rfl, Below.refl _ _⟩
  | false =>
    go_enter Tryz.func49, Tryz.ntmps49
    go_wp2_with fail
    refine HU.out.mono ?_
    rintro e w1 ⟨rfl, hb1⟩
    have H1 := Lib.hid hb1
    clear hb1 x0 HU
    go_wp2_with fail
    go_ret
    exact ⟨by simp, H1.out⟩
set_option maxRecDepth 100000 in
theorem inside_any (w : World) (p : ByteArray) (v : Value) (tops : List ByteArray) (hp : p.size ≤ 90000) (hv : SlV w 1 sE v tops) (hn : tops.length ≤ 1000000) :
    Calls Tryz.prog 12 #[.string p, v] w fun e w' => e = .returned (.bool (insideN tops p)) ∧ Below w.heap.size w w' := by
  have hb : Below w.heap.size w (w.alloc (.cells #[.string p] 9)) := (Below.refl _ w).alloc (Nat.le_refl _) _
  have hB := Blk.new w 9 #[Value.string p]
  obtain ⟨W, hW⟩ : ∃ W, w.alloc (.cells #[.string p] 9) = W := ⟨_, rfl⟩
  rw [hW] at hb hB
  have HC := Lib.hid (conIN_any (fun t => decide (t = p) || inS (upsS p) t) (fun V => Blk V w.heap.size 9 #[.string p]) (fun V V' h hg => h.grown hg (by simp)) W v w.heap.size tops (hv.below hb (Nat.le_refl _)) hn hB (fun V x _ h => inside1_any V w.heap.size p x hp h))
  have HB := Lib.hid hb
  have HW := Lib.hid hW
  obtain ⟨A, c, rfl, _, _, _⟩ := hv
  clear hb hB hW
  unfold insideN
  generalize (tops.any fun t => decide (t = p) || inS (upsS p) t) = R at *
  generalize tops.length = n at *
  go_enter Tryz.func12, Tryz.ntmps12
  go_upto_region 1 with fail
  rw [HW.out]
  go_wp2_with fail
  refine HC.out.mono ?_
  rintro e w1 ⟨rfl, hb1⟩
  have H1 := Lib.hid (HB.out.trans (hb1.mono HB.out.size))
  clear hb1
  go_wp2_with fail
  go_ret
  exact ⟨rfl, H1.out⟩
set_option maxRecDepth 100000 in
/-- does a path go, for it is none, or is under another one? -/
theorem tops1_any (w : World) (gl : Nat) (p : ByteArray) (v : Value) (l : List ByteArray) (hp : p.size ≤ 90000) (hz : ∀ t ∈ l, t.size ≤ 90000) (hv : SlV w 1 sE v l) (hn : l.length ≤ 1000000) (hg : w.cell? ⟨gl, 0, none⟩ = some v) :
    Calls Tryz.prog 85 #[.string p, .pointer (some ⟨gl, 0, none⟩)] w fun e w' => e = .returned (.bool (!topKeep l p)) ∧ Below w.heap.size w w' := by
  have hgl := World.block_lt_of_cell? w _ hg
  have hb : Below w.heap.size w (w.alloc (.cells #[.string p] 9)) := (Below.refl _ w).alloc (Nat.le_refl _) _
  have hB := Blk.new w 9 #[Value.string p]
  obtain ⟨W, hW⟩ : ∃ W, w.alloc (.cells #[.string p] 9) = W := ⟨_, rfl⟩
  rw [hW] at hb hB
  have HR := Lib.hid (right_any W p (by omega))
  have HC := Lib.hid (fun V (h : Below W.heap.size W V) => conTA_any (fun t => inS (upsS p) t && rightL t.data.toList) (fun U => Blk U w.heap.size 9 #[.string p]) (fun U U' h hg => h.grown hg (by simp)) V v w.heap.size l ((hv.below hb (Nat.le_refl _)).below h (Nat.le_refl _)) hn (hB.below h hB.lt) (fun U x hx h => above_any U w.heap.size p x hp (hz x hx) h))
  have x0 := hB.cell 0
  have y0 : W.cell? ⟨gl, 0, none⟩ = some v := (hb.cell (p := ⟨gl, 0, none⟩) hgl).trans hg
  simp only [List.getElem?_toArray, List.getElem?_cons_zero] at x0
  have HB := Lib.hid (And.intro hb (And.intro hgl y0))
  have HW := Lib.hid hW
  obtain ⟨A, c, rfl, _, _, _⟩ := hv
  clear hb hB hW hg hz
  unfold topKeep
  generalize (l.any fun t => inS (upsS p) t && rightL t.data.toList) = R at *
  generalize rightL p.data.toList = Q at *
  generalize l.length = n at *
  go_enter Tryz.func85, Tryz.ntmps85
  go_upto_region 1 with fail
  rw [HW.out]
  go_wp2_with fail
  refine HR.out.mono ?_
  rintro e w1 ⟨rfl, hb1⟩
  have z0 : w1.cell? ⟨gl, 0, none⟩ = some (.slice A n c) := (hb1.cell (p := ⟨gl, 0, none⟩) (Nat.lt_of_lt_of_le HB.out.2.1 HB.out.1.size)).trans HB.out.2.2
  have H1 := Lib.hid (And.intro hb1 (HB.out.1.trans (hb1.mono HB.out.1.size)))
  clear hb1 x0 y0 HR
  cases Q with
  | false =>
    go_wp2_with fail
    go_ret
    exact ⟨rfl, H1.out.2⟩
  | true =>
    go_wp2_with fail
    refine (HC.out w1 H1.out.1).mono ?_
    rintro e w2 ⟨rfl, hb2⟩
    have H2 := Lib.hid (H1.out.2.trans (hb2.mono H1.out.2.size))
    clear hb2 z0 HC
    go_wp2_with fail
    go_ret
    exact ⟨by simp, H2.out⟩
set_option maxRecDepth 100000 in
theorem tops_any (w : World) (v : Value) (l : List ByteArray) (hz : ∀ t ∈ l, t.size ≤ 90000) (hv : SlV w 1 sE v l) (hn : l.length ≤ 1000) :
    Calls Tryz.prog 35 #[v] w fun e w' => ∃ u, e = .returned u ∧ w'.ownsRow w.heap.size 9 1 u (topsN l).length ((topsN l).flatMap sE) ∧ Below w.heap.size w w' := by
  have hb : Below w.heap.size w (w.alloc (.cells #[v] 24)) := (Below.refl _ w).alloc (Nat.le_refl _) _
  have hB := Blk.new w 24 #[v]
  obtain ⟨W, hW⟩ : ∃ W, w.alloc (.cells #[v] 24) = W := ⟨_, rfl⟩
  rw [hW] at hb hB
  have HCL := Lib.hid (slCloneST_any sE sE_lenP sE_oneP W v l (hv.below hb (Nat.le_refl _)) (by omega))
  have x0 := hB.cell 0
  simp only [List.getElem?_toArray, List.getElem?_cons_zero] at x0
  have HB := Lib.hid (And.intro hb (And.intro hB hv))
  have HW := Lib.hid hW
  have HZ := Lib.hid hz
  obtain ⟨A, c, rfl, _, _, _⟩ := hv
  clear hb hB hW hz
  obtain ⟨n, hnl⟩ : ∃ n, l.length = n := ⟨_, rfl⟩
  have HN := Lib.hid hnl
  rw [hnl] at HCL HB HW x0 hn ⊢
  clear hnl
  go_enter Tryz.func35, Tryz.ntmps35
  go_upto_region 1 with fail
  rw [HW.out]
  go_wp2_with fail
  refine HCL.out.mono ?_
  rintro e w1 ⟨u, rfl, ho, hb1⟩
  have ho' : w1.ownsRow W.heap.size 9 1 u l.length (l.flatMap sE) := by rw [HN.out]; exact ho
  have hBk := HB.out.2.1.below hb1 HB.out.2.1.lt
  have hvk := (HB.out.2.2.below HB.out.1 (Nat.le_refl _)).below hb1 (Nat.le_refl _)
  have hlg : ∀ k, u.ownBlock = some k → W.heap.size ≤ k := fun k hk => (ho'.lt k hk).1
  have HD := Lib.hid (slDelFuncTP_any (fun q => !topKeep l q) (fun V => Below W.heap.size W V) w1 W.heap.size u l ho' (fun V V' h hg => h.grown hg h.size (fun k hk => hlg k hk)) w.heap.size (by rw [HN.out]; omega) hb1 (fun V x hx h => tops1_any V w.heap.size x (.slice A n c) l (HZ.out x hx) HZ.out ((HB.out.2.2.below HB.out.1 (Nat.le_refl _)).below h (Nat.le_refl _)) (by rw [HN.out]; omega) (by
    have := (HB.out.2.1.below h HB.out.2.1.lt).cell 0
    simpa using this)))
  have HL := Lib.hid (And.intro (HB.out.1.trans (hb1.mono HB.out.1.size)) (And.intro hlg HB.out.1.size))
  obtain ⟨A2, c2, rfl, _, _, _⟩ := SlV_of_any ho
  clear ho ho' hBk hvk hlg hb1 x0 HCL
  go_wp2_with fail
  refine HD.out.mono ?_
  rintro e w2 ⟨v2, rfl, ho2, hg2, hr2⟩
  have hfl : (l.filter fun x => !(!topKeep l x)) = topsN l := by unfold topsN; simp
  rw [hfl] at ho2
  have hb2 := HL.out.1.grown hg2 HL.out.1.size (fun k hk => Nat.le_trans HL.out.2.2 (HL.out.2.1 k hk))
  have HF := Lib.hid (And.intro (own_wide ho2 HL.out.2.2) hb2)
  obtain ⟨A3, c3, rfl, _, _, _⟩ := SlV_of_any ho2
  clear ho2 hg2 hr2 hb2 hfl HD
  obtain ⟨k, hk⟩ : ∃ k, (topsN l).length = k := ⟨_, rfl⟩
  rw [hk] at HF ⊢
  have HK := Lib.hid hk
  clear hk
  go_wp2_with fail
  go_ret
  exact ⟨_, rfl, by rw [HK.out]; exact HF.out.1, HF.out.2⟩
end Go.Proofs.YtmpgmgjokliceaaGreatDoor
/- Contracts of recon.Class, node.Same, recon.Decide, and of the reference's Class and Decide. -/
set_option linter.unusedVariables false
set_option linter.unusedSimpArgs false
namespace Sw
open Go
/-- the class of a conflict -/
def classN (a b : Nd) : Int := if a.kind = 0 ∨ b.kind = 0 then 2 else if a.kind ≠ b.kind then 3 else 1
/-- what is decided -/
def decideN (was : Pr) (had : Bool) (a b : Nd) : Int × Int :=
  if printN a = printN b then (0, 0) else if stateN was had a = 0 then (1, 0) else if stateN was had b = 0 then (2, 0) else (3, classN a b)
end Sw
namespace Go.Proofs.YtmpgmgjokliceaaGreatDoor
open Go.RowKit
open Sw
set_option maxRecDepth 100000 in
theorem eq_print (p q : Pr) (W : World) : (binOp .eql 89 (.agg p.c) (.agg q.c)).run Tryz.prog W = .ok (.bool (decide (p = q))) W := by
  obtain ⟨k1, m1, t1, z1, u1⟩ := p
  obtain ⟨k2, m2, t2, z2, u2⟩ := q
  unfold Pr.c
  by_cases h1 : k1 = k2
  · subst h1
    by_cases h2 : m1 = m2
    · subst h2
      by_cases h3 : t1 = t2
      · subst h3
        by_cases h4 : z1 = z2
        · subst h4
          by_cases h5 : u1 = u2
          · subst h5
            simp [go_sem, Tryz.underlying89, Tryz.underlying3, Tryz.underlying35]
          · have hb := beq_eq_false_iff_ne.2 h5
            simp [go_sem, hb, h5, Tryz.underlying89, Tryz.underlying3, Tryz.underlying35]
        · have hb := beq_eq_false_iff_ne.2 h4
          simp [go_sem, hb, h4, Tryz.underlying89, Tryz.underlying3, Tryz.underlying35]
      · have hb := beq_eq_false_iff_ne.2 h3
        simp [go_sem, hb, h3, Tryz.underlying89, Tryz.underlying3, Tryz.underlying35]
    · have hb := beq_eq_false_iff_ne.2 h2
      simp [go_sem, hb, h2, Tryz.underlying89, Tryz.underlying3, Tryz.underlying35]
  · have hb := beq_eq_false_iff_ne.2 h1
    simp [go_sem, hb, h1, Tryz.underlying89, Tryz.underlying3, Tryz.underlying35]
/-- two nodes in their boxes -/
def Nodes2 (w : World) (a b : Nd) (W : World) : Prop := Blk W w.heap.size 37 a.c ∧ Blk W (w.heap.size + 1) 37 b.c ∧ Below w.heap.size w W
theorem Nodes2.keep {w : World} {a b : Nd} (W W' : World) (h : Nodes2 w a b W) (hb : Below W.heap.size W W') : Nodes2 w a b W' := ⟨h.1.below hb h.1.lt, h.2.1.below hb h.2.1.lt, h.2.2.trans (hb.mono h.2.2.size)⟩
set_option maxRecDepth 100000 in
set_option maxHeartbeats 4000000 in
theorem nodeSame_any (w : World) (a b : Nd) (ha : a.data.size ≤ maxLen) (hb : b.data.size ≤ maxLen) :
    Calls Tryz.prog 95 #[.agg a.c, .agg b.c] w fun e w' => e = .returned (.bool (decide (printN a = printN b))) ∧ Below w.heap.size w w' := by
  have hA := fun W => print_any W a ha
  have hB := fun W => print_any W b hb
  have hEQ := fun W => eq_print (printN a) (printN b) W
  have hB0 : Nodes2 w a b ((w.alloc (.cells a.c 37)).alloc (.cells b.c 37)) := ⟨blk_fst _ _ _ _, blk_snd _ _ _ _, ((Below.refl _ _).alloc (Nat.le_refl _) _).alloc (by simp) _⟩
  have HB0 := Lib.hid hB0; clear hB0
  generalize printN a = p at *
  generalize printN b = q at *
  generalize decide (p = q) = r at *
  have q0 : ∀ x : Held (Nodes2 w a b), (HeldW x).cell? ⟨w.heap.size, 0, none⟩ = some (.int .i64 a.kind) := fun x => ((HeldW_spec x).1).cell 0
  have q1 : ∀ x : Held (Nodes2 w a b), (HeldW x).cell? ⟨w.heap.size, 1, none⟩ = some (.int .i64 a.mode) := fun x => ((HeldW_spec x).1).cell 1
  have q2 : ∀ x : Held (Nodes2 w a b), (HeldW x).cell? ⟨w.heap.size, 2, none⟩ = some (.int .u32 a.time) := fun x => ((HeldW_spec x).1).cell 2
  have q3 : ∀ x : Held (Nodes2 w a b), (HeldW x).cell? ⟨w.heap.size, 3, none⟩ = some (.string a.data) := fun x => ((HeldW_spec x).1).cell 3
  have n0 : ∀ x : Held (Nodes2 w a b), (HeldW x).cell? ⟨w.heap.size + 1, 0, none⟩ = some (.int .i64 b.kind) := fun x => ((HeldW_spec x).2.1).cell 0
  have n1 : ∀ x : Held (Nodes2 w a b), (HeldW x).cell? ⟨w.heap.size + 1, 1, none⟩ = some (.int .i64 b.mode) := fun x => ((HeldW_spec x).2.1).cell 1
  have n2 : ∀ x : Held (Nodes2 w a b), (HeldW x).cell? ⟨w.heap.size + 1, 2, none⟩ = some (.int .u32 b.time) := fun x => ((HeldW_spec x).2.1).cell 2
  have n3 : ∀ x : Held (Nodes2 w a b), (HeldW x).cell? ⟨w.heap.size + 1, 3, none⟩ = some (.string b.data) := fun x => ((HeldW_spec x).2.1).cell 3
  haveI : Nonempty (Held (Nodes2 w a b)) := held_some HB0.out
  unfold Nd.c Pr.c at *
  have HA := Lib.hid hA; clear hA
  have HB := Lib.hid hB; clear hB
  go_enter Tryz.func95, Tryz.ntmps95
  go_wp2_with fail
  refine wp_region_class (Nodes2 w a b) (by kernel_rfl) (by kernel_rfl) (by have h := HB0.out; exact ⟨h.1, h.2.1, h.2.2.drew⟩) ?_
  repeat (go_big_quiet_step (first | with_reducible exact held_below Nodes2.keep (HA.out _) | with_reducible exact held_below Nodes2.keep (HB.out _)))
  refine wpQuiet_nil ?_
  rintro _ ⟨nn, rfl⟩
  go_wp2_with fail
  go_ret
  exact ⟨rfl, (HeldW_spec nn).2.2⟩
end Go.Proofs.YtmpgmgjokliceaaGreatDoor
