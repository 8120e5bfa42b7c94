/- Several texts, joined for the limit of sixty files; each one opens with its own comment. -/
import Derived.Test.YtlfeeiloijmagaaGreatDoorJoin8
import Derived.Test.YtlfeeiloijmagaaGreatDoorJoin21
import Derived.Test.YtlfeeiloijmagaaGreatDoorJoin17
import Derived.Test.YtlfeeiloijmagaaGreatDoorJoin20
import Derived.Test.YtlfeeiloijmagaaGreatDoorChecked
import Derived.Test.YtlfeeiloijmagaaGreatDoorJoin10
import Derived.Test.YtlfeeiloijmagaaGreatDoorJoin5
/- Detecting, plainly: sets of paths, prints of marks. -/
set_option linter.unusedVariables false
set_option linter.unusedSimpArgs false
namespace Sw
open Go
abbrev MkE := ByteArray × Pr
abbrev SbE := ByteArray × Bool
/-- paths put into a set -/
def setP (X : List SbE) (ps : List ByteArray) : List SbE := ps.foldl (fun X p => putN ordS p true X) X
theorem setP_app (X : List SbE) (a b : List ByteArray) : setP X (a ++ b) = setP (setP X a) b := by unfold setP; rw [List.foldl_append]
theorem setP_step (X : List SbE) (ps : List ByteArray) (i : Nat) (h : i < ps.length) : setP X (ps.take (i + 1)) = putN ordS ps[i] true (setP X (ps.take i)) := by
  rw [List.take_succ_eq_append_getElem h, setP_app]
  rfl
theorem setP_up : ∀ (ps : List ByteArray) (X : List SbE), Up ordS X → Up ordS (setP X ps)
  | [], _, h => h
  | p :: ps, X, h => setP_up ps _ (put_up ordS_ord p true X h)
theorem setP_len : ∀ (ps : List ByteArray) (X : List SbE), (setP X ps).length ≤ X.length + ps.length
  | [], _ => Nat.le_refl _
  | p :: ps, X => by
    have h1 := setP_len ps (putN ordS p true X)
    have h2 := put_len (c := ordS) p true X
    have h3 : (putN ordS p true X).length ≤ X.length + 1 := by rw [h2]; split <;> omega
    simp only [List.length_cons]
    exact Nat.le_trans h1 (by omega)
theorem put_keys (p : ByteArray) (v : Bool) (X : List SbE) (h : Up ordS X) (q : ByteArray) : q ∈ (putN ordS p v X).map Prod.fst ↔ q = p ∨ q ∈ X.map Prod.fst := by
  rw [put_filter ordS_ord p v X h]
  simp only [List.map_append, List.mem_append, List.map_cons, List.mem_cons, List.mem_map, List.mem_filter, decide_eq_true_eq]
  constructor
  · rintro (⟨e, he, rfl⟩ | rfl | ⟨e, he, rfl⟩)
    · exact .inr ⟨e, he.1, rfl⟩
    · exact .inl rfl
    · exact .inr ⟨e, he.1, rfl⟩
  · rintro (rfl | ⟨e, he, rfl⟩)
    · exact .inr (.inl rfl)
    · by_cases h1 : ordS e.1 p < 0
      · exact .inl ⟨e, ⟨he, h1⟩, rfl⟩
      · by_cases h2 : ordS e.1 p = 0
        · exact .inr (.inl (ordS_ord.zero _ _ h2))
        · exact .inr (.inr ⟨e, ⟨he, by omega⟩, rfl⟩)
theorem setP_keys : ∀ (ps : List ByteArray) (X : List SbE), Up ordS X → ∀ q, q ∈ (setP X ps).map Prod.fst ↔ q ∈ ps ∨ q ∈ X.map Prod.fst
  | [], _, _, q => by simp [setP]
  | p :: ps, X, h, q => by
    have h1 := setP_keys ps _ (put_up ordS_ord p true X h) q
    have h2 := put_keys p true X h q
    show q ∈ (setP (putN ordS p true X) ps).map Prod.fst ↔ _
    rw [h1, h2, List.mem_cons]
    constructor
    · rintro (h | h | h)
      · exact .inl (.inr h)
      · exact .inl (.inl h)
      · exact .inr h
    · rintro ((h | h) | h)
      · exact .inr (.inl h)
      · exact .inl h
      · exact .inr (.inr h)
/-- paths that rise -/
def Rise (l : List ByteArray) : Prop := l.Pairwise fun a b => ordS a b < 0
theorem rise_keys {β : Type} {X : List (ByteArray × β)} (h : Up ordS X) : Rise (X.map Prod.fst) := by
  unfold Rise
  rw [List.pairwise_map]
  exact h
theorem rise_ext : ∀ {l m : List ByteArray}, Rise l → Rise m → (∀ q, q ∈ l ↔ q ∈ m) → l = m
  | [], [], _, _, _ => rfl
  | [], b :: m, _, _, h => absurd ((h b).2 (List.mem_cons_self ..)) (by simp)
  | a :: l, [], _, _, h => absurd ((h a).1 (List.mem_cons_self ..)) (by simp)
  | a :: l, b :: m, hl, hm, h => by
    have irr : ∀ x, ¬ ordS x x < 0 := fun x => by have := ordS_ord.self x; omega
    have ha := (List.pairwise_cons.1 hl).1
    have hb := (List.pairwise_cons.1 hm).1
    have hab : a = b := by
      rcases List.mem_cons.1 ((h a).1 (List.mem_cons_self ..)) with e | e
      · exact e
      · rcases List.mem_cons.1 ((h b).2 (List.mem_cons_self ..)) with e2 | e2
        · exact e2.symm
        · exact absurd (ordS_ord.trans _ _ _ (hb a e) (ha b e2)) (irr b)
    subst hab
    rw [rise_ext (List.pairwise_cons.1 hl).2 (List.pairwise_cons.1 hm).2 (fun q => ?_)]
    constructor
    · intro hq
      rcases List.mem_cons.1 ((h q).1 (List.mem_cons_of_mem _ hq)) with e | e
      · subst e; exact absurd (ha _ hq) (irr _)
      · exact e
    · intro hq
      rcases List.mem_cons.1 ((h q).2 (List.mem_cons_of_mem _ hq)) with e | e
      · subst e; exact absurd (hb _ hq) (irr _)
      · exact e
/-- the paths of a row of paths, each once, in order -/
def pathsS (ps : List ByteArray) : List ByteArray := (setP [] ps).map Prod.fst
theorem pathsS_rise (ps : List ByteArray) : Rise (pathsS ps) := rise_keys (setP_up ps [] List.Pairwise.nil)
theorem pathsS_mem (ps : List ByteArray) (q : ByteArray) : q ∈ pathsS ps ↔ q ∈ ps := by
  unfold pathsS
  rw [setP_keys ps [] List.Pairwise.nil]
  simp
theorem pathsS_len (ps : List ByteArray) : (pathsS ps).length ≤ ps.length := by
  unfold pathsS
  rw [List.length_map]
  simpa using setP_len ps []
/-- whatever rises and has the same paths is it -/
theorem pathsS_eq {ps l : List ByteArray} (hl : Rise l) (h : ∀ q, q ∈ l ↔ q ∈ ps) : pathsS ps = l := rise_ext (pathsS_rise ps) hl (fun q => by rw [pathsS_mem, h])
/-- the first print at a path -/
def findM (L : List MkE) (p : ByteArray) : Option Pr := (L.find? fun m => decide (m.1 = p)).map Prod.snd
theorem findM_cons (m : MkE) (L : List MkE) (p : ByteArray) : findM (m :: L) p = if m.1 = p then some m.2 else findM L p := by
  unfold findM
  by_cases h : m.1 = p
  · rw [if_pos h, List.find?_cons_of_pos (by simpa using h)]; rfl
  · rw [if_neg h, List.find?_cons_of_neg (by simpa using h)]
/-- the marks of a tree's row -/
def marksT (xs : List NE) : List MkE := xs.map fun e => (e.1, printN e.2)
/-- what became of a path -/
def ofP (L : List MkE) (xs : List NE) (p : ByteArray) : Int := stateN ((findM L p).getD ⟨0, 0, 0, 0, 0⟩) (findM L p).isSome (getT xs p)
theorem findM_up : ∀ {L : List MkE}, Up ordS L → ∀ {m : MkE}, m ∈ L → findM L m.1 = some m.2
  | [], _, m, h => by cases h
  | a :: L, hu, m, h => by
    rw [findM_cons]
    rcases List.mem_cons.1 h with e | e
    · subst e; rw [if_pos rfl]
    · have h1 := hu.head m e
      have hne : ¬ a.1 = m.1 := fun e' => by rw [e'] at h1; have := ordS_ord.self m.1; omega
      rw [if_neg hne]
      exact findM_up hu.tail e
theorem findM_none {L : List MkE} {p : ByteArray} (h : ∀ m ∈ L, ¬ m.1 = p) : findM L p = none := by
  unfold findM
  rw [List.find?_eq_none.2 (fun m hm => by simpa using h m hm)]
  rfl
theorem marksT_up {xs : List NE} (h : Up ordS xs) : Up ordS (marksT xs) := by
  unfold marksT Up
  rw [List.pairwise_map]
  exact h
theorem marksT_keys (xs : List NE) : (marksT xs).map Prod.fst = xs.map Prod.fst := by
  unfold marksT
  rw [List.map_map]
  rfl
/-- what became of all paths -/
def allP (L : List MkE) (xs : List NE) : List (ByteArray × Int) := (pathsS (L.map Prod.fst ++ xs.map Prod.fst)).map fun p => (p, ofP L xs p)
theorem ofP_self {xs : List NE} (h : TI xs) {e : NE} (he : e ∈ xs) : ofP (marksT xs) xs e.1 = 0 := by
  unfold ofP
  have hm : (e.1, printN e.2) ∈ marksT xs := List.mem_map_of_mem he
  have h1 := findM_up (marksT_up h.up) hm
  dsimp only at h1
  rw [h1, getT_in h.up he]
  unfold stateN
  simp
theorem ofP_nil {xs : List NE} (h : TI xs) {e : NE} (he : e ∈ xs) : ofP [] xs e.1 = 1 := by
  unfold ofP
  rw [show findM [] e.1 = none from rfl, getT_in h.up he]
  unfold stateN
  simp [(h.nod e he).1]
theorem allP_self {xs : List NE} (h : TI xs) : allP (marksT xs) xs = xs.map fun e => (e.1, 0) := by
  unfold allP
  rw [marksT_keys, pathsS_eq (rise_keys h.up) (fun q => by simp), List.map_map]
  exact List.map_congr_left fun e he => by show (e.1, ofP (marksT xs) xs e.1) = _; rw [ofP_self h he]
theorem allP_nil {xs : List NE} (h : TI xs) : allP [] xs = xs.map fun e => (e.1, 1) := by
  unfold allP
  rw [List.map_nil, List.nil_append, pathsS_eq (rise_keys h.up) (fun q => Iff.rfl), List.map_map]
  exact List.map_congr_left fun e he => by show (e.1, ofP [] xs e.1) = _; rw [ofP_nil h he]
theorem dropN_mem {xs : List NE} (hu : Up ordS xs) {p : ByteArray} (e : NE) : e ∈ dropN ordS p xs ↔ e ∈ xs ∧ ¬ e.1 = p := by
  rw [drop_filter ordS_ord p xs hu, List.mem_filter]
  simp [ordS_ord.iff]
/-- with one path dropped, that one is gone -/
theorem allP_drop {xs : List NE} (h : TI xs) {x : NE} (hx : x ∈ xs) : (allP (marksT xs) (dropN ordS x.1 xs)).filter (fun f => !decide (f.2 = 0)) = [(x.1, 3)] := by
  have hu := drop_up ordS_ord x.1 xs h.up
  have hp : pathsS ((marksT xs).map Prod.fst ++ (dropN ordS x.1 xs).map Prod.fst) = xs.map Prod.fst := by
    rw [marksT_keys]
    refine pathsS_eq (rise_keys h.up) fun q => ?_
    rw [List.mem_append]
    refine ⟨.inl, ?_⟩
    rintro (hq | hq)
    · exact hq
    · obtain ⟨e, he, rfl⟩ := List.mem_map.1 hq
      exact List.mem_map_of_mem ((dropN_mem h.up e).1 he).1
  have hof : ∀ e ∈ xs, ofP (marksT xs) (dropN ordS x.1 xs) e.1 = if e.1 = x.1 then 3 else 0 := fun e he => by
    unfold ofP
    have hm : (e.1, printN e.2) ∈ marksT xs := List.mem_map_of_mem he
    have h1 := findM_up (marksT_up h.up) hm
    dsimp only at h1
    rw [h1]
    by_cases hk : e.1 = x.1
    · rw [if_pos hk, getT_out hu (fun d hd => by rw [hk]; exact ((dropN_mem h.up d).1 hd).2)]
      unfold stateN
      have hne : ¬ printN e.2 = printN ndZ := fun e' => (h.nod e he).1 (by have := congrArg Pr.kind e'; simpa [printN, ndZ] using this)
      simp only [Option.isSome_some, Option.getD_some]
      rw [if_neg (by simp), if_neg hne]
      rfl
    · rw [if_neg hk, getT_in hu ((dropN_mem h.up e).2 ⟨he, hk⟩)]
      unfold stateN
      simp
  unfold allP
  rw [hp, List.map_map, List.filter_map]
  have hfe : xs.filter ((fun f : ByteArray × Int => !decide (f.2 = 0)) ∘ ((fun p => (p, ofP (marksT xs) (dropN ordS x.1 xs) p)) ∘ Prod.fst)) = xs.filter fun e => decide (e.1 = x.1) := by
    refine List.filter_congr fun e he => ?_
    show (!decide (ofP (marksT xs) (dropN ordS x.1 xs) e.1 = 0)) = decide (e.1 = x.1)
    rw [hof e he]
    by_cases hk : e.1 = x.1
    · rw [if_pos hk]; simp [hk]
    · rw [if_neg hk]; simp [hk]
  rw [hfe]
  have hone : ∀ (l : List NE), Up ordS l → x ∈ l → l.filter (fun e => decide (e.1 = x.1)) = [x] := by
    intro l
    induction l with
    | nil => intro _ hm; cases hm
    | cons a l ih =>
      intro hl hm
      by_cases ha : a.1 = x.1
      · have hax : a = x := up_key hl (List.mem_cons_self ..) hm ha
        rw [List.filter_cons_of_pos (by simpa using ha), List.filter_eq_nil_iff.2 (fun e he => by
          have h1 := hl.head e he
          have : ¬ e.1 = x.1 := fun e' => by rw [e', ha] at h1; have := ordS_ord.self x.1; omega
          simpa using this), hax]
      · rw [List.filter_cons_of_neg (by simpa using ha)]
        rcases List.mem_cons.1 hm with e | e
        · exact absurd (by rw [e]) ha
        · exact ih hl.tail e
  rw [hone xs h.up hx]
  show [(x.1, ofP (marksT xs) (dropN ordS x.1 xs) x.1)] = _
  rw [hof x hx, if_pos rfl]
end Sw
/- archive.order, Both, Find. -/
set_option linter.unusedVariables false
set_option linter.unusedSimpArgs false
namespace Go.Proofs.YtlfeeiloijmagaaGreatDoor
open Go Go.RowKit
open Sw
abbrev Pth := { s : ByteArray // s.size ≤ 90000 }
abbrev cmpM (x y : Pth × Pr) : Int := ordS x.1.1 y.1.1
theorem cmpM_law : Cmp cmpM where
  irr := fun x => by have := ordS_ord.self x.1.1; show ¬ ordS x.1.1 x.1.1 < 0; omega
  asym := fun x y h => by have := ordS_neg x.1.1 y.1.1; show ¬ ordS y.1.1 x.1.1 < 0; have h' : ordS x.1.1 y.1.1 < 0 := h; omega
  trans := fun x y z h k => by
    show ¬ ordS z.1.1 x.1.1 < 0
    have h' : ¬ ordS y.1.1 x.1.1 < 0 := h
    have k' : ¬ ordS z.1.1 y.1.1 < 0 := k
    intro hz
    rcases ordS_three y.1.1 x.1.1 with e | e | e
    · omega
    · have := ordS_zero e
      rw [← this] at hz
      exact k' hz
    · have e2 : ordS x.1.1 y.1.1 < 0 := by have := ordS_neg x.1.1 y.1.1; omega
      exact k' (ordS_ord.trans _ _ _ hz e2)
set_option maxRecDepth 100000 in
set_option maxHeartbeats 4000000 in
theorem orderM_any (W : World) (x y : Pth × Pr) :
    Calls Tryz.prog 102 #[.agg (eCMK x).toArray, .agg (eCMK y).toArray] W fun e w' => e = .returned (.int .i64 (cmpM x y)) ∧ Below W.heap.size W w' := by
  obtain ⟨⟨p, hp⟩, px⟩ := x
  obtain ⟨⟨q, hq⟩, qx⟩ := y
  rw [show cmpM (⟨p, hp⟩, px) (⟨q, hq⟩, qx) = ordS p q from rfl]
  have hb0 : Below W.heap.size W ((W.alloc (.cells (eCMK (⟨p, hp⟩, px)).toArray 74)).alloc (.cells (eCMK (⟨q, hq⟩, qx)).toArray 74)) := ((Below.refl _ _).alloc (Nat.le_refl _) _).alloc (by simp) _
  have HO := Lib.hid (orderS_any ((W.alloc (.cells (eCMK (⟨p, hp⟩, px)).toArray 74)).alloc (.cells (eCMK (⟨q, hq⟩, qx)).toArray 74)) p q hp hq)
  have HB := Lib.hid hb0; clear hb0
  simp only [eCMK] at *
  generalize ordS p q = r at *
  go_enter Tryz.func102, Tryz.ntmps102
  go_wp2_with fail
  refine HO.out.mono ?_
  rintro e w2 ⟨rfl, hb2⟩
  go_wp2_with fail
  go_ret
  exact ⟨rfl, HB.out.trans (hb2.mono HB.out.size)⟩
def backM (x : Pth × Pr) : MkE := (x.1.1, x.2)
theorem eCMK_back (x : Pth × Pr) : eCMK x = eCM (backM x) := rfl
theorem marks_sub : ∀ (L : List MkE), (∀ m ∈ L, m.1.size ≤ 90000) → ∃ K : List (Pth × Pr), K.map backM = L
  | [], _ => ⟨[], rfl⟩
  | m :: L, h => by
    obtain ⟨K, hK⟩ := marks_sub L (fun x hx => h x (List.mem_cons_of_mem _ hx))
    exact ⟨(⟨m.1, h m (List.mem_cons_self ..)⟩, m.2) :: K, by rw [List.map_cons, hK]; rfl⟩
theorem flat_back (K : List (Pth × Pr)) : K.flatMap eCMK = (K.map backM).flatMap eCM := by
  induction K with
  | nil => rfl
  | cons x K ih => rw [List.flatMap_cons, List.map_cons, List.flatMap_cons, ih, eCMK_back]
theorem zip_riseM {α : Type} (l : List α) : l.zipIdx.Pairwise fun p q => p.2 < q.2 := by
  rw [List.pairwise_iff_getElem]
  intro i j hi hj hij
  simp
  omega
set_option maxRecDepth 100000 in
set_option maxHeartbeats 4000000 in
theorem both_any (w : World) (u1 u2 : Value) (l1 l2 : List MkE) (h1 : SlV w 6 eCM u1 l1) (h2 : SlV w 6 eCM u2 l2) (hl1 : l1.length ≤ 100000) (hl2 : l2.length ≤ 100000) (hp1 : ∀ m ∈ l1, m.1.size ≤ 90000) (hp2 : ∀ m ∈ l2, m.1.size ≤ 90000) :
    Calls Tryz.prog 66 #[.agg #[u1, u2]] w fun e w' => ∃ (u : Value) (M : List MkE), e = .returned u ∧ M.Perm (l1 ++ l2) ∧ w'.ownsRow w.heap.size 74 6 u M.length (M.flatMap eCM) ∧ Below w.heap.size w w' := by
  obtain ⟨K, hK⟩ := marks_sub (l1 ++ l2) (fun m hm => (List.mem_append.1 hm).elim (hp1 m) (hp2 m))
  have hb1 : Below w.heap.size w (w.alloc (.cells #[u1, u2] 24)) := (Below.refl _ w).alloc (Nat.le_refl _) _
  have hb2 : Below w.heap.size w ((w.alloc (.cells #[u1, u2] 24)).alloc (.cells #[u1, u2] 22)) := hb1.alloc (by simp) _
  have HC := Lib.hid (concatM_any ((w.alloc (.cells #[u1, u2] 24)).alloc (.cells #[u1, u2] 22)) (w.heap.size + 1) _ u1 u2 l1 l2 (blk_snd _ _ _ _) (h1.below hb2 (Nat.le_refl _)) (h2.below hb2 (Nat.le_refl _)) hl1 hl2)
  have HB := Lib.hid hb2
  have HKK := Lib.hid hK
  obtain ⟨A1, k1, rfl, _, _, _⟩ := h1
  obtain ⟨A2, k2, rfl, _, _, _⟩ := h2
  have hkl : K.length = (l1 ++ l2).length := by rw [← hK, List.length_map]
  have hk2 : K.length ≤ 1000000 := by rw [hkl, List.length_append]; omega
  have HKL := Lib.hid (And.intro hkl hk2)
  clear hb1 hb2 hK hkl hk2 hl1 hl2 hp1 hp2
  generalize l1.length = n1 at *
  generalize l2.length = n2 at *
  go_enter Tryz.func66, Tryz.ntmps66
  go_wp2_with fail
  refine HC.out.mono ?_
  rintro e w3 ⟨u, rfl, ho3, hb3⟩
  obtain ⟨A3, k3, rfl, _, _, _⟩ := SlV_of_any ho3
  have hrow : RowDMK w3 w.heap.size (.slice A3 (l1 ++ l2).length k3) (l1 ++ l2).length K.zipIdx := ⟨by rw [List.length_zipIdx]; exact HKL.out.1, by rw [List.zipIdx_map_fst, flat_back, HKK.out]; exact own_wide ho3 HB.out.size⟩
  have hb3w := HB.out.trans (hb3.mono HB.out.size)
  have HS := Lib.hid (sortStableMK_any cmpM cmpM_law orderM_any w3 w.heap.size A3 k3 (l1 ++ l2).length K.zipIdx (by rw [← HKL.out.1]; exact HKL.out.2) (zip_riseM K) hb3w.size hrow)
  have H3 := Lib.hid hb3w; clear hb3 ho3 hrow hb3w HC
  generalize (l1 ++ l2).length = n at *
  go_wp2_with fail
  refine HS.out.mono ?_
  rintro e w4 ⟨rfl, M, hM, hU, hr, hb4⟩
  have HF := Lib.hid (show w4.ownsRow w.heap.size 74 6 (.slice A3 n k3) ((M.map Prod.fst).map backM).length (((M.map Prod.fst).map backM).flatMap eCM) from by
    have h := hr.2
    rw [flat_back] at h
    rw [List.length_map, List.length_map, hr.1]
    exact h)
  have HP := Lib.hid (show ((M.map Prod.fst).map backM).Perm (l1 ++ l2) from by
    have h1 := (hM.map Prod.fst).map backM
    rw [List.zipIdx_map_fst, HKK.out] at h1
    exact h1)
  have HB4 := Lib.hid (H3.out.trans hb4); clear hb4 hr hM hU HS
  go_wp2_with fail
  go_ret
  exact ⟨_, _, rfl, HP.out, HF.out, HB4.out⟩
end Go.Proofs.YtlfeeiloijmagaaGreatDoor
/- slices.Clone of a row of sorted.entry[string,bool]: the same elements, in memory of the call's own. -/
set_option linter.unusedVariables false
set_option linter.unusedSimpArgs false
namespace Go.Proofs.YtlfeeiloijmagaaGreatDoor
open Go Go.RowKit
open Sw
theorem infoESB : (Tryz.prog.info? 158).map (fun i => (i.zero, i.size, i.bytes)) = some (some (.agg #[.string ⟨#[]⟩, .bool false]), 2, 24) := by kernel_rfl
set_option maxRecDepth 100000 in
set_option maxHeartbeats 2000000 in
theorem slCloneSB_any {α : Type} (E : α → List Value) (hE : ∀ x, (E x).length = 2) (hE1 : ∀ x, ∀ u ∈ E x, u.oneCell' = true) (w : World) (v : Value) (l : List α) (h : SlV w 2 E v l) (hl : l.length ≤ 1000000) :
    Calls Tryz.prog 104 #[v] w fun e w' => ∃ v', e = .returned v' ∧ w'.ownsRow w.heap.size 158 2 v' l.length (l.flatMap E) ∧ Below w.heap.size w w' := by
  obtain ⟨A, c, rfl, hc1, hc2, hsl⟩ := h
  cases A with
  | none =>
    have h0 : l = [] := by
      cases l with
      | nil => rfl
      | cons a l => obtain ⟨b, off, h, _⟩ := hsl (by simp); cases h
    subst h0
    have hno := World.ownsRow_nil w w.heap.size 158 2
    have HN := Lib.hid hno; clear hno hsl
    have hnl : ∀ W n c, (binOp .eql 151 (.slice none n c) (.slice none 0 0)).run Tryz.prog W = .ok (.bool true) W := fun W n c => Lib.run_eql_slice_nil W 151 158 none n c 0 0 Tryz.underlying151
    go_enter Tryz.func104, Tryz.ntmps104
    go_wp2_with fail
    go_ret
    exact ⟨_, rfl, HN.out, Below.refl _ _⟩
  | some a =>
    obtain ⟨i0, hi, hz0, hz1, hz2⟩ := info_parts infoESB
    have hlen : (l.flatMap E).length = l.length * 2 := flat_len hE l
    have hone : ∀ u ∈ l.flatMap E, u.oneCell' = true := fun u hu => by
      rw [List.mem_flatMap] at hu
      obtain ⟨x, _, hx⟩ := hu
      exact hE1 x u hx
    have hnews : ∀ j u, (l.flatMap E)[j]? = some u → w.cell? (a.add j) = some u := fun j u hj => by
      have hjl := (List.getElem?_eq_some_iff.1 hj).1
      rw [hlen] at hjl
      obtain ⟨b, off, hA, _, hcs⟩ := hsl (by omega)
      rw [Option.some.inj hA, add_mk]
      have hq : j / 2 < l.length := by omega
      have hr : j % 2 < 2 := Nat.mod_lt _ (by omega)
      have hd : j / 2 * 2 + j % 2 = j := by omega
      have h1 := flat_get hE l (j / 2) hq (j % 2) hr
      rw [hd, hj] at h1
      have h2 := hcs (j / 2) hq (j % 2) hr
      rw [Nat.add_assoc, hd] at h2
      rw [h2, ← h1]
    have hnews1 : ∀ (o : Obj) j u, (l.flatMap E)[j]? = some u → (w.alloc o).cell? (a.add j) = some u := fun o j u hj => by
      have h1 := hnews j u hj
      have hlt := World.block_lt_of_cell? w _ h1
      rw [← h1]
      exact ((Below.refl w.heap.size w).alloc (Nat.le_refl _) o).cell hlt
    have hown := World.ownsRow_made (e := 158) (size := 2) (base := w.heap.size) w #[] 0 (Nat.le_refl _) (by decide) (by simp)
    have hbe : Below w.heap.size w (w.alloc (.cells #[] 158)) := (Below.refl _ _).alloc (Nat.le_refl _) _
    have HH := Lib.hid (And.intro hown hbe); clear hown hbe
    have HL := Lib.hid hlen; clear hlen
    have HO := Lib.hid hone; clear hone
    have HW := Lib.hid hnews1; clear hnews1 hnews
    have HI := Lib.hid (And.intro hi (And.intro hz0 (And.intro hz1 hz2))); clear hi hz0 hz1 hz2
    generalize l.flatMap E = xs at *
    generalize l.length = n at *
    have hnl : ∀ W n c, (binOp .eql 151 (.slice (some a) n c) (.slice none 0 0)).run Tryz.prog W = .ok (.bool false) W := fun W n c => Lib.run_eql_slice_nil W 151 158 (some a) n c 0 0 Tryz.underlying151
    go_enter Tryz.func104, Tryz.ntmps104
    go_wp2_with (at_builtin; refine wpList_append_own _ rfl _ _ 151 rfl w.heap.size 158 i0 (.agg #[.string ⟨#[]⟩, .bool false]) 2 24 Tryz.underlying151 HI.out.1 HI.out.2.1 HI.out.2.2.1 HI.out.2.2.2 rfl (by decide) _ _ _ rfl HH.out.1 a n c xs rfl HL.out (HW.out _) HO.out (by unfold maxLen; omega) (by omega) (by simp) ?_; intro v' w1 hown1 hgrow1 hnil1)
    have HP := Lib.hid (And.intro hown1 hgrow1); clear hown1 hgrow1 hnil1
    go_wp2_with fail
    go_ret
    refine ⟨_, rfl, ?_, HH.out.2.grown HP.out.2 (by simp) (fun k hk => ?_)⟩
    · have := HP.out.1
      simpa using this
    · have : w.heap.size = k := Option.some.inj hk
      omega
end Go.Proofs.YtlfeeiloijmagaaGreatDoor
/- slices.BinarySearchFunc over a row of sorted.entry[string,bool], as sorted.Map's find calls it. -/
set_option linter.unusedVariables false
set_option linter.unusedSimpArgs false
namespace Go.Proofs.YtlfeeiloijmagaaGreatDoor
open Go Go.RowKit
open Sw
def SrchPostSB {α : Type} (f : α → Int) (l : List α) (w : World) (e : Ending) (w' : World) : Prop :=
  ∃ i : Nat, i ≤ l.length ∧ (∀ m (h : m < l.length), m < i → f l[m] < 0) ∧ (∀ m (h : m < l.length), i ≤ m → 0 ≤ f l[m]) ∧
    e = .returned (.tuple #[.int .i64 i, .bool (if h : i < l.length then decide (f l[i] = 0) else false)]) ∧ Below w.heap.size w w'
set_option maxRecDepth 100000 in
set_option maxHeartbeats 4000000 in
theorem slSearchSB_any {α : Type} (E : α → List Value) (hE : ∀ x, (E x).length = 2) (f : α → Int) (w : World) (A : Option Addr) (n c g : Nat) (l : List α) (kv : Value) (hl : l.length = n) (hn : n ≤ 1000000) (hsl : SlOf w 2 E A l)
    (hmono : ∀ a b (ha : a < l.length) (hb : b < l.length), a ≤ b → f l[b] < 0 → f l[a] < 0)
    (hcall : ∀ W x, x ∈ l → Below w.heap.size w W → Calls Tryz.prog 131 #[.agg (E x).toArray, kv, .pointer (some ⟨g, 0, none⟩)] W fun e w' => e = .returned (.int .i64 (f x)) ∧ Below W.heap.size W w') :
    Calls Tryz.prog 130 #[.slice A n c, kv, .func (.func 131) #[] #[.pointer (some ⟨g, 0, none⟩)]] w (SrchPostSB f l w) := by
  have HS := Lib.hid hsl; clear hsl
  have HL := Lib.hid hl; clear hl
  have HM := Lib.hid hmono; clear hmono
  have HC := Lib.hid hcall; clear hcall
  have HE := Lib.hid hE; clear hE
  go_enter Tryz.func130, Tryz.ntmps130
  go_wp2_with fail
  go_loopw [9, 10] (fun iv jv wr => ∃ i j : Nat, i ≤ j ∧ j ≤ n ∧ iv = .int .i64 i ∧ jv = .int .i64 j ∧ (∀ m (h : m < l.length), m < i → f l[m] < 0) ∧ (∀ m (h : m < l.length), j ≤ m → 0 ≤ f l[m]) ∧ Below w.heap.size w wr) (fun iv jv _ => (intOf jv - intOf iv).toNat)
  case atStart => exact ⟨0, n, Nat.zero_le _, Nat.le_refl _, rfl, rfl, fun m h h' => by omega, fun m h h' => by have := HL.out; omega, Below.refl _ _⟩
  case round =>
    obtain ⟨i, j, hij, hjn, rfl, rfl, hlo, hhi, hbr⟩ := hrel
    have HLO := Lib.hid hlo; clear hlo
    have HHI := Lib.hid hhi; clear hhi
    by_cases hlt : i < j
    · have hjL : j ≤ l.length := by have := HL.out; omega
      obtain ⟨h, hh⟩ : ∃ h : Nat, ((i : Int) + j) / 2 = h := ⟨(i + j) / 2, by omega⟩
      have hih : i ≤ h := by omega
      have hhj : h < j := by omega
      have hhL : h < l.length := by omega
      obtain ⟨b, off, rfl, hbb, _⟩ := (HS.out.below hbr (Nat.le_refl _)) (by omega)
      have HR := Lib.hid ((HS.out.below hbr (Nat.le_refl _)).range HE.out h hhL)
      have HF := Lib.hid (HC.out wr l[h] (List.getElem_mem hhL) hbr)
      have HX := Lib.hid (HE.out l[h])
      have HLO2 := Lib.hid (fun (hf : f l[h] < 0) m (hm : m < l.length) (hmh : m < h + 1) => (HM.out m h hm hhL (by omega) hf : f l[m] < 0))
      have HHI2 := Lib.hid (fun (hf : ¬ f l[h] < 0) m (hm : m < l.length) (hmh : h ≤ m) => (by
        refine Int.not_lt.1 fun hx => hf ?_
        exact HM.out h m hhL hm hmh hx : 0 ≤ f l[m]))
      generalize f l[h] = fv at *
      generalize E l[h] = ev at *
      have q1 : (i : Int) + j ≤ 2000000 := by omega
      have q2 : (h : Int) < n := by omega
      go_wp2_with (refine wpList_load_mid rfl 158 (.tmp 27) rfl b (off + h * 2) rfl ev _ HR.out Tryz.underlying158 rfl (by rw [HX.out]; kernel_rfl) ?_)
      refine HF.out.mono ?_
      rintro e w2 ⟨rfl, hb2⟩
      have hb3 := hbr.trans (hb2.mono hbr.size)
      clear HR HF
      by_cases hf : fv < 0
      · have H1 := Lib.hid (HLO2.out hf)
        go_wp2_with fail
        go_roundw
        case rel => exact ⟨h + 1, j, by omega, hjn, by go_num, rfl, H1.out, HHI.out, hb3⟩
        case measure => simp [intOf]; omega
      · have H1 := Lib.hid (HHI2.out (by omega))
        go_wp2_with fail
        go_roundw
        case rel => exact ⟨i, h, hih, by omega, rfl, by go_num, HLO.out, H1.out, hb3⟩
        case measure => simp [intOf]; omega
    · obtain rfl : i = j := by omega
      clear hij hlt
      by_cases hin : i < n
      · have hiL : i < l.length := by have := HL.out; omega
        obtain ⟨b, off, rfl, hbb, _⟩ := (HS.out.below hbr (Nat.le_refl _)) (by omega)
        have HR := Lib.hid ((HS.out.below hbr (Nat.le_refl _)).range HE.out i hiL)
        have HF := Lib.hid (HC.out wr l[i] (List.getElem_mem hiL) hbr)
        have HX := Lib.hid (HE.out l[i])
        have HP := Lib.hid (fun w' (hb : Below w.heap.size w w') => (⟨i, by omega, HLO.out, HHI.out, by rw [dif_pos hiL], hb⟩ : SrchPostSB f l w (.returned (.tuple #[.int .i64 i, .bool (decide (f l[i] = 0))])) w'))
        generalize f l[i] = fv at *
        generalize E l[i] = ev at *
        have q2 : (i : Int) < n := by omega
        go_wp2_with (refine wpList_load_row_g rfl 158 (.tmp 43) rfl b (off + i * 2) rfl ev _ HR.out Tryz.underlying158 rfl (by rw [HX.out]; kernel_rfl) ?_)
        refine HF.out.mono ?_
        rintro e w2 ⟨rfl, hb2⟩
        have hb3 := hbr.trans (hb2.mono hbr.size)
        have HQ := Lib.hid (HP.out w2 hb3)
        have hbq : (fv == 0) = decide (fv = 0) := rfl
        go_wp2_with fail
        go_ret2
        exact HQ.out
      · obtain rfl : i = n := by omega
        have HP := Lib.hid (fun w' (hb : Below w.heap.size w w') => (⟨i, by have := HL.out; omega, HLO.out, HHI.out, by rw [dif_neg (by have := HL.out; omega)], hb⟩ : SrchPostSB f l w (.returned (.tuple #[.int .i64 i, .bool false])) w'))
        go_wp2_with fail
        go_ret2
        exact HP.out _ hbr
end Go.Proofs.YtlfeeiloijmagaaGreatDoor
/- sorted.Map[string,bool]: what a map holds; find. -/
set_option linter.unusedVariables false
set_option linter.unusedSimpArgs false
namespace Go.Proofs.YtlfeeiloijmagaaGreatDoor
open Go Go.RowKit
open Sw
/-- an entry's cells -/
def eCSB (e : ByteArray × Bool) : List Value := [.string e.1, .bool e.2]
theorem eCSB_len (e : ByteArray × Bool) : (eCSB e).length = 2 := rfl
theorem eCSB_one (e : ByteArray × Bool) : ∀ u ∈ eCSB e, u.oneCell' = true := by
  intro u hu
  simp only [eCSB, List.mem_cons, List.mem_append, List.not_mem_nil, or_false] at hu
  rcases hu with rfl | rfl <;> rfl
abbrev ordFSB : Value := .func (.func 35) #[] #[]
/-- the map in block bm holds the entries xs -/
structure SMapSB (w : World) (bm : Nat) (xs : List (ByteArray × Bool)) : Prop where
  row : ∃ v, Blk w bm 153 #[ordFSB, v] ∧ w.ownsRow 0 158 2 v xs.length (xs.flatMap eCSB)
  up : Up ordS xs
  ok : ∀ e ∈ xs, okS e.1
set_option maxRecDepth 100000 in
set_option maxHeartbeats 2000000 in
theorem find1SB_any (w : World) (g bm : Nat) (e : ByteArray × Bool) (k : ByteArray) (he : okS e.1) (hk : okS k) (hg : w.cell? ⟨g, 0, none⟩ = some (.pointer (some ⟨bm, 0, none⟩))) (hm : w.cell? ⟨bm, 0, none⟩ = some ordFSB) :
    Calls Tryz.prog 131 #[.agg (eCSB e).toArray, Value.string k, .pointer (some ⟨g, 0, none⟩)] w fun r w' => r = .returned (.int .i64 (ordS e.1 k)) ∧ Below w.heap.size w w' := by
  have HO := Lib.hid (fun W => orderS_any W e.1 k he hk)
  have hB := Blk.new w 158 (eCSB e).toArray
  have hb1 := (Below.refl w.heap.size w).alloc (Nat.le_refl _) (.cells (eCSB e).toArray 158)
  have hgl := World.block_lt_of_cell? w _ hg
  have hml := World.block_lt_of_cell? w _ hm
  have hg1 := (hb1.cell (p := ⟨g, 0, none⟩) hgl).trans hg
  have hm1 := (hb1.cell (p := ⟨bm, 0, none⟩) hml).trans hm
  have hlt := hB.lt
  have hk0 : (w.alloc (.cells (eCSB e).toArray 158)).cell? ⟨w.heap.size, 0, none⟩ = some (Value.string e.1) := hB.cell 0
  clear hg hm hB
  generalize ordS e.1 k = r at *
  have l1 : ∀ m : Held (Aft (w.alloc (.cells (eCSB e).toArray 158))), (HeldW m).cell? ⟨g, 0, none⟩ = some (.pointer (some ⟨bm, 0, none⟩)) := fun m => (Aft.cell m (p := ⟨g, 0, none⟩) (Nat.lt_of_lt_of_le hgl hb1.size)).trans hg1
  have l2 : ∀ m : Held (Aft (w.alloc (.cells (eCSB e).toArray 158))), (HeldW m).cell? ⟨bm, 0, none⟩ = some ordFSB := fun m => (Aft.cell m (p := ⟨bm, 0, none⟩) (Nat.lt_of_lt_of_le hml hb1.size)).trans hm1
  have l3 : ∀ m : Held (Aft (w.alloc (.cells (eCSB e).toArray 158))), (HeldW m).cell? ⟨w.heap.size, 0, none⟩ = some (Value.string e.1) := fun m => (Aft.cell m (p := ⟨w.heap.size, 0, none⟩) hlt).trans hk0
  have HB1 := Lib.hid hb1; clear hb1 hg1 hm1 hk0
  haveI := Aft.some (w.alloc (.cells (eCSB e).toArray 158))
  generalize (eCSB e).toArray = ec at *
  go_enter Tryz.func131, Tryz.ntmps131
  go_wp2_with fail
  refine wp_region_class (Aft (w.alloc (.cells ec 158))) (by kernel_rfl) (by kernel_rfl) (Aft.start _) ?_
  repeat (go_big_quiet_step (with_reducible exact held_below Aft.keep (HO.out _)))
  refine wpQuiet_nil ?_
  rintro _ ⟨nn, rfl⟩
  have HW : Hid (Below (w.alloc (.cells ec 158)).heap.size (w.alloc (.cells ec 158)) (HeldW nn)) := Lib.hid (HeldW_spec nn)
  go_wp2_with fail
  go_ret
  exact ⟨rfl, HB1.out.trans (HW.out.mono HB1.out.size)⟩
end Go.Proofs.YtlfeeiloijmagaaGreatDoor
