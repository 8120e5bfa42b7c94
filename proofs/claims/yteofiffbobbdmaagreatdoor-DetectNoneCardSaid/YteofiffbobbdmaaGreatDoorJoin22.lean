/- Several texts, joined for the limit of sixty files; each one opens with its own comment. -/
import Derived.Test.YteofiffbobbdmaaGreatDoorJoin8
import Derived.Test.YteofiffbobbdmaaGreatDoorJoin18
import Derived.Test.YteofiffbobbdmaaGreatDoorJoin21
import Derived.Test.YteofiffbobbdmaaGreatDoorJoin20
import Derived.StillTail
import Derived.StillTactics
import Derived.Deep.QuietTactic
import Derived.BigQuiet
/- Detecting, plainly: sets of paths, prints of marks. -/
set_option linter.unusedVariables false
set_option linter.unusedSimpArgs false
namespace Sw
open Go
abbrev MkE := ByteArray × Pr
abbrev SbE := ByteArray × Bool
/-- paths put into a set -/
def setP (X : List SbE) (ps : List ByteArray) : List SbE := ps.foldl (fun X p => putN ordS p true X) X
theorem setP_app (X : List SbE) (a b : List ByteArray) : setP X (a ++ b) = setP (setP X a) b := by unfold setP; rw [List.foldl_append]
theorem setP_step (X : List SbE) (ps : List ByteArray) (i : Nat) (h : i < ps.length) : setP X (ps.take (i + 1)) = putN ordS ps[i] true (setP X (ps.take i)) := by
  rw [List.take_succ_eq_append_getElem h, setP_app]
  rfl
theorem setP_up : ∀ (ps : List ByteArray) (X : List SbE), Up ordS X → Up ordS (setP X ps)
  | [], _, h => h
  | p :: ps, X, h => setP_up ps _ (put_up ordS_ord p true X h)
theorem setP_len : ∀ (ps : List ByteArray) (X : List SbE), (setP X ps).length ≤ X.length + ps.length
  | [], _ => Nat.le_refl _
  | p :: ps, X => by
    have h1 := setP_len ps (putN ordS p true X)
    have h2 := put_len (c := ordS) p true X
    have h3 : (putN ordS p true X).length ≤ X.length + 1 := by rw [h2]; split <;> omega
    simp only [List.length_cons]
    exact Nat.le_trans h1 (by omega)
theorem put_keys (p : ByteArray) (v : Bool) (X : List SbE) (h : Up ordS X) (q : ByteArray) : q ∈ (putN ordS p v X).map Prod.fst ↔ q = p ∨ q ∈ X.map Prod.fst := by
  rw [put_filter ordS_ord p v X h]
  simp only [List.map_append, List.mem_append, List.map_cons, List.mem_cons, List.mem_map, List.mem_filter, decide_eq_true_eq]
  constructor
  · rintro (⟨e, he, rfl⟩ | rfl | ⟨e, he, rfl⟩)
    · exact .inr ⟨e, he.1, rfl⟩
    · exact .inl rfl
    · exact .inr ⟨e, he.1, rfl⟩
  · rintro (rfl | ⟨e, he, rfl⟩)
    · exact .inr (.inl rfl)
    · by_cases h1 : ordS e.1 p < 0
      · exact .inl ⟨e, ⟨he, h1⟩, rfl⟩
      · by_cases h2 : ordS e.1 p = 0
        · exact .inr (.inl (ordS_ord.zero _ _ h2))
        · exact .inr (.inr ⟨e, ⟨he, by omega⟩, rfl⟩)
theorem setP_keys : ∀ (ps : List ByteArray) (X : List SbE), Up ordS X → ∀ q, q ∈ (setP X ps).map Prod.fst ↔ q ∈ ps ∨ q ∈ X.map Prod.fst
  | [], _, _, q => by simp [setP]
  | p :: ps, X, h, q => by
    have h1 := setP_keys ps _ (put_up ordS_ord p true X h) q
    have h2 := put_keys p true X h q
    show q ∈ (setP (putN ordS p true X) ps).map Prod.fst ↔ _
    rw [h1, h2, List.mem_cons]
    constructor
    · rintro (h | h | h)
      · exact .inl (.inr h)
      · exact .inl (.inl h)
      · exact .inr h
    · rintro ((h | h) | h)
      · exact .inr (.inl h)
      · exact .inl h
      · exact .inr (.inr h)
/-- paths that rise -/
def Rise (l : List ByteArray) : Prop := l.Pairwise fun a b => ordS a b < 0
theorem rise_keys {β : Type} {X : List (ByteArray × β)} (h : Up ordS X) : Rise (X.map Prod.fst) := by
  unfold Rise
  rw [List.pairwise_map]
  exact h
theorem rise_ext : ∀ {l m : List ByteArray}, Rise l → Rise m → (∀ q, q ∈ l ↔ q ∈ m) → l = m
  | [], [], _, _, _ => rfl
  | [], b :: m, _, _, h => absurd ((h b).2 (List.mem_cons_self ..)) (by simp)
  | a :: l, [], _, _, h => absurd ((h a).1 (List.mem_cons_self ..)) (by simp)
  | a :: l, b :: m, hl, hm, h => by
    have irr : ∀ x, ¬ ordS x x < 0 := fun x => by have := ordS_ord.self x; omega
    have ha := (List.pairwise_cons.1 hl).1
    have hb := (List.pairwise_cons.1 hm).1
    have hab : a = b := by
      rcases List.mem_cons.1 ((h a).1 (List.mem_cons_self ..)) with e | e
      · exact e
      · rcases List.mem_cons.1 ((h b).2 (List.mem_cons_self ..)) with e2 | e2
        · exact e2.symm
        · exact absurd (ordS_ord.trans _ _ _ (hb a e) (ha b e2)) (irr b)
    subst hab
    rw [rise_ext (List.pairwise_cons.1 hl).2 (List.pairwise_cons.1 hm).2 (fun q => ?_)]
    constructor
    · intro hq
      rcases List.mem_cons.1 ((h q).1 (List.mem_cons_of_mem _ hq)) with e | e
      · subst e; exact absurd (ha _ hq) (irr _)
      · exact e
    · intro hq
      rcases List.mem_cons.1 ((h q).2 (List.mem_cons_of_mem _ hq)) with e | e
      · subst e; exact absurd (hb _ hq) (irr _)
      · exact e
/-- the paths of a row of paths, each once, in order -/
def pathsS (ps : List ByteArray) : List ByteArray := (setP [] ps).map Prod.fst
theorem pathsS_rise (ps : List ByteArray) : Rise (pathsS ps) := rise_keys (setP_up ps [] List.Pairwise.nil)
theorem pathsS_mem (ps : List ByteArray) (q : ByteArray) : q ∈ pathsS ps ↔ q ∈ ps := by
  unfold pathsS
  rw [setP_keys ps [] List.Pairwise.nil]
  simp
theorem pathsS_len (ps : List ByteArray) : (pathsS ps).length ≤ ps.length := by
  unfold pathsS
  rw [List.length_map]
  simpa using setP_len ps []
/-- whatever rises and has the same paths is it -/
theorem pathsS_eq {ps l : List ByteArray} (hl : Rise l) (h : ∀ q, q ∈ l ↔ q ∈ ps) : pathsS ps = l := rise_ext (pathsS_rise ps) hl (fun q => by rw [pathsS_mem, h])
/-- the first print at a path -/
def findM (L : List MkE) (p : ByteArray) : Option Pr := (L.find? fun m => decide (m.1 = p)).map Prod.snd
theorem findM_cons (m : MkE) (L : List MkE) (p : ByteArray) : findM (m :: L) p = if m.1 = p then some m.2 else findM L p := by
  unfold findM
  by_cases h : m.1 = p
  · rw [if_pos h, List.find?_cons_of_pos (by simpa using h)]; rfl
  · rw [if_neg h, List.find?_cons_of_neg (by simpa using h)]
/-- the marks of a tree's row -/
def marksT (xs : List NE) : List MkE := xs.map fun e => (e.1, printN e.2)
/-- what became of a path -/
def ofP (L : List MkE) (xs : List NE) (p : ByteArray) : Int := stateN ((findM L p).getD ⟨0, 0, 0, 0, 0⟩) (findM L p).isSome (getT xs p)
theorem findM_up : ∀ {L : List MkE}, Up ordS L → ∀ {m : MkE}, m ∈ L → findM L m.1 = some m.2
  | [], _, m, h => by cases h
  | a :: L, hu, m, h => by
    rw [findM_cons]
    rcases List.mem_cons.1 h with e | e
    · subst e; rw [if_pos rfl]
    · have h1 := hu.head m e
      have hne : ¬ a.1 = m.1 := fun e' => by rw [e'] at h1; have := ordS_ord.self m.1; omega
      rw [if_neg hne]
      exact findM_up hu.tail e
theorem findM_none {L : List MkE} {p : ByteArray} (h : ∀ m ∈ L, ¬ m.1 = p) : findM L p = none := by
  unfold findM
  rw [List.find?_eq_none.2 (fun m hm => by simpa using h m hm)]
  rfl
theorem marksT_up {xs : List NE} (h : Up ordS xs) : Up ordS (marksT xs) := by
  unfold marksT Up
  rw [List.pairwise_map]
  exact h
theorem marksT_keys (xs : List NE) : (marksT xs).map Prod.fst = xs.map Prod.fst := by
  unfold marksT
  rw [List.map_map]
  rfl
/-- what became of all paths -/
def allP (L : List MkE) (xs : List NE) : List (ByteArray × Int) := (pathsS (L.map Prod.fst ++ xs.map Prod.fst)).map fun p => (p, ofP L xs p)
theorem ofP_self {xs : List NE} (h : TI xs) {e : NE} (he : e ∈ xs) : ofP (marksT xs) xs e.1 = 0 := by
  unfold ofP
  have hm : (e.1, printN e.2) ∈ marksT xs := List.mem_map_of_mem he
  have h1 := findM_up (marksT_up h.up) hm
  dsimp only at h1
  rw [h1, getT_in h.up he]
  unfold stateN
  simp
theorem ofP_nil {xs : List NE} (h : TI xs) {e : NE} (he : e ∈ xs) : ofP [] xs e.1 = 1 := by
  unfold ofP
  rw [show findM [] e.1 = none from rfl, getT_in h.up he]
  unfold stateN
  simp [(h.nod e he).1]
theorem allP_self {xs : List NE} (h : TI xs) : allP (marksT xs) xs = xs.map fun e => (e.1, 0) := by
  unfold allP
  rw [marksT_keys, pathsS_eq (rise_keys h.up) (fun q => by simp), List.map_map]
  exact List.map_congr_left fun e he => by show (e.1, ofP (marksT xs) xs e.1) = _; rw [ofP_self h he]
theorem allP_nil {xs : List NE} (h : TI xs) : allP [] xs = xs.map fun e => (e.1, 1) := by
  unfold allP
  rw [List.map_nil, List.nil_append, pathsS_eq (rise_keys h.up) (fun q => Iff.rfl), List.map_map]
  exact List.map_congr_left fun e he => by show (e.1, ofP [] xs e.1) = _; rw [ofP_nil h he]
theorem dropN_mem {xs : List NE} (hu : Up ordS xs) {p : ByteArray} (e : NE) : e ∈ dropN ordS p xs ↔ e ∈ xs ∧ ¬ e.1 = p := by
  rw [drop_filter ordS_ord p xs hu, List.mem_filter]
  simp [ordS_ord.iff]
/-- with one path dropped, that one is gone -/
theorem allP_drop {xs : List NE} (h : TI xs) {x : NE} (hx : x ∈ xs) : (allP (marksT xs) (dropN ordS x.1 xs)).filter (fun f => !decide (f.2 = 0)) = [(x.1, 3)] := by
  have hu := drop_up ordS_ord x.1 xs h.up
  have hp : pathsS ((marksT xs).map Prod.fst ++ (dropN ordS x.1 xs).map Prod.fst) = xs.map Prod.fst := by
    rw [marksT_keys]
    refine pathsS_eq (rise_keys h.up) fun q => ?_
    rw [List.mem_append]
    refine ⟨.inl, ?_⟩
    rintro (hq | hq)
    · exact hq
    · obtain ⟨e, he, rfl⟩ := List.mem_map.1 hq
      exact List.mem_map_of_mem ((dropN_mem h.up e).1 he).1
  have hof : ∀ e ∈ xs, ofP (marksT xs) (dropN ordS x.1 xs) e.1 = if e.1 = x.1 then 3 else 0 := fun e he => by
    unfold ofP
    have hm : (e.1, printN e.2) ∈ marksT xs := List.mem_map_of_mem he
    have h1 := findM_up (marksT_up h.up) hm
    dsimp only at h1
    rw [h1]
    by_cases hk : e.1 = x.1
    · rw [if_pos hk, getT_out hu (fun d hd => by rw [hk]; exact ((dropN_mem h.up d).1 hd).2)]
      unfold stateN
      have hne : ¬ printN e.2 = printN ndZ := fun e' => (h.nod e he).1 (by have := congrArg Pr.kind e'; simpa [printN, ndZ] using this)
      simp only [Option.isSome_some, Option.getD_some]
      rw [if_neg (by simp), if_neg hne]
      rfl
    · rw [if_neg hk, getT_in hu ((dropN_mem h.up e).2 ⟨he, hk⟩)]
      unfold stateN
      simp
  unfold allP
  rw [hp, List.map_map, List.filter_map]
  have hfe : xs.filter ((fun f : ByteArray × Int => !decide (f.2 = 0)) ∘ ((fun p => (p, ofP (marksT xs) (dropN ordS x.1 xs) p)) ∘ Prod.fst)) = xs.filter fun e => decide (e.1 = x.1) := by
    refine List.filter_congr fun e he => ?_
    show (!decide (ofP (marksT xs) (dropN ordS x.1 xs) e.1 = 0)) = decide (e.1 = x.1)
    rw [hof e he]
    by_cases hk : e.1 = x.1
    · rw [if_pos hk]; simp [hk]
    · rw [if_neg hk]; simp [hk]
  rw [hfe]
  have hone : ∀ (l : List NE), Up ordS l → x ∈ l → l.filter (fun e => decide (e.1 = x.1)) = [x] := by
    intro l
    induction l with
    | nil => intro _ hm; cases hm
    | cons a l ih =>
      intro hl hm
      by_cases ha : a.1 = x.1
      · have hax : a = x := up_key hl (List.mem_cons_self ..) hm ha
        rw [List.filter_cons_of_pos (by simpa using ha), List.filter_eq_nil_iff.2 (fun e he => by
          have h1 := hl.head e he
          have : ¬ e.1 = x.1 := fun e' => by rw [e', ha] at h1; have := ordS_ord.self x.1; omega
          simpa using this), hax]
      · rw [List.filter_cons_of_neg (by simpa using ha)]
        rcases List.mem_cons.1 hm with e | e
        · exact absurd (by rw [e]) ha
        · exact ih hl.tail e
  rw [hone xs h.up hx]
  show [(x.1, ofP (marksT xs) (dropN ordS x.1 xs) x.1)] = _
  rw [hof x hx, if_pos rfl]
end Sw
/- archive.Find. -/
set_option linter.unusedVariables false
set_option linter.unusedSimpArgs false
namespace Sw
open Go
theorem toList_inj {x y : ByteArray} (h : x.toList = y.toList) : x = y := by
  rw [ByteArray.toList_eq, ByteArray.toList_eq] at h
  apply ByteArray.ext
  exact Array.ext' h
theorem str_beq (u v : ByteArray) : (u.toList == v.toList) = decide (u = v) := by
  by_cases h : u = v
  · subst h; simp
  · have : ¬ u.toList = v.toList := fun e => h (toList_inj e)
    simp [h, this]
theorem findM_at : ∀ (L : List MkE) (p : ByteArray) (i : Nat) (h : i < L.length), (∀ j (hj : j < L.length), j < i → ¬ L[j].1 = p) → L[i].1 = p → findM L p = some L[i].2
  | [], p, i, h, _, _ => absurd h (by simp)
  | m :: L, p, 0, h, _, he => by rw [findM_cons, if_pos (by simpa using he)]; rfl
  | m :: L, p, i + 1, h, hn, he => by
    have h0 := hn 0 (by simp) (by omega)
    rw [findM_cons, if_neg (by simpa using h0)]
    have := findM_at L p i (by simpa using h) (fun j hj hji => by have := hn (j + 1) (by simpa using hj) (by omega); simpa using this) (by simpa using he)
    rw [this]
    simp
end Sw
namespace Go.Proofs.YteofiffbobbdmaaGreatDoor
open Go Go.RowKit
open Sw
set_option maxRecDepth 100000 in
set_option maxHeartbeats 8000000 in
theorem findM_any (w : World) (u1 u2 : Value) (l1 l2 : List MkE) (p : ByteArray) (h1 : SlV w 6 eCM u1 l1) (h2 : SlV w 6 eCM u2 l2) (hl1 : l1.length ≤ 100000) (hl2 : l2.length ≤ 100000) :
    Calls Tryz.prog 57 #[.agg #[u1, u2], .string p] w fun e w' => e = .returned (.tuple #[.agg ((findM (l1 ++ l2) p).getD ⟨0, 0, 0, 0, 0⟩).c, .bool (findM (l1 ++ l2) p).isSome]) ∧ Below w.heap.size w w' := by
  obtain ⟨W0, hW0⟩ : ∃ W0, ((w.alloc (.cells #[u1, u2] 24)).alloc (.cells #[.int .i64 0, .int .i64 0, .int .u32 0, .int .i64 0, .int .u32 0] 75)).alloc (.cells #[u1, u2] 22) = W0 := ⟨_, rfl⟩
  have hb2 : Below w.heap.size w W0 := by rw [← hW0]; exact (((Below.refl _ w).alloc (Nat.le_refl _) _).alloc (by simp) _).alloc (by simp; omega) _
  have hR0 : Blk W0 (w.heap.size + 1) 75 #[.int .i64 0, .int .i64 0, .int .u32 0, .int .i64 0, .int .u32 0] := by rw [← hW0]; exact (blk_snd _ _ _ _).alloc _
  have hC0 : Blk W0 (w.heap.size + 1 + 1) 22 #[u1, u2] := by rw [← hW0]; exact blk_trd _ _ _ _ _
  have HC := Lib.hid (concatM_any W0 (w.heap.size + 1 + 1) _ u1 u2 l1 l2 hC0 (h1.below hb2 (Nat.le_refl _)) (h2.below hb2 (Nat.le_refl _)) hl1 hl2)
  have HB := Lib.hid (And.intro hb2 hR0)
  have HW0 := Lib.hid hW0
  have hn : (l1 ++ l2).length ≤ 200000 := by rw [List.length_append]; omega
  obtain ⟨A1, k1, rfl, _, _, _⟩ := h1
  obtain ⟨A2, k2, rfl, _, _, _⟩ := h2
  clear hb2 hR0 hC0 hW0 hl1 hl2
  generalize l1.length = n1 at *
  generalize l2.length = n2 at *
  generalize l1 ++ l2 = L at *
  obtain ⟨n, hn2⟩ : ∃ n, L.length = n := ⟨_, rfl⟩
  rw [hn2] at HC hn
  have HL := Lib.hid hn2; clear hn2
  go_enter Tryz.func57, Tryz.ntmps57
  go_wp2_with fail
  rw [HW0.out]
  refine HC.out.mono ?_
  rintro e w3 ⟨u, rfl, ho3, hb3⟩
  obtain ⟨A3, k3, rfl, _, _, _⟩ := SlV_of_any ho3
  have hsl3 := SlV.of_own ho3 eCM_len (by decide)
  have H3 := Lib.hid (And.intro hsl3 (And.intro (HB.out.1.trans (hb3.mono HB.out.1.size)) (HB.out.2.below hb3 HB.out.2.lt))); clear hb3 ho3 hsl3 HC HB
  go_wp2_with fail
  go_loopw [15] (fun iv wr => ∃ i : Nat, i ≤ n ∧ iv = .int .i64 i ∧ (∀ j (hj : j < L.length), j < i → ¬ L[j].1 = p) ∧ Below w.heap.size w wr ∧ Below w3.heap.size w3 wr) (fun iv _ => n - (intOf iv).toNat)
  case atStart => exact ⟨0, Nat.zero_le _, rfl, fun j _ h => absurd h (Nat.not_lt_zero _), H3.out.2.1, Below.refl _ _⟩
  case round =>
    obtain ⟨i, hi, rfl, hall, hb, hb3⟩ := hrel
    have HA := Lib.hid hall; clear hall
    have hR := H3.out.2.2.below hb3 H3.out.2.2.lt
    have hslr := H3.out.1.below hb3 (Nat.le_refl _)
    by_cases hlt : i < n
    · have hiL : i < L.length := by have := HL.out; omega
      obtain ⟨A', c', hA, _, _, hso⟩ := hslr
      obtain ⟨rfl, rfl⟩ : A3 = A' ∧ k3 = c' := by injection hA with e1 e2 e3; exact ⟨e1, e3⟩
      clear hA
      obtain ⟨b, off, rfl, hbb, hcs⟩ := hso (by omega)
      have c0 := hcs i hiL 0 (by omega)
      have c1 := hcs i hiL 1 (by omega)
      have c2 := hcs i hiL 2 (by omega)
      have c3' := hcs i hiL 3 (by omega)
      have c4 := hcs i hiL 4 (by omega)
      have c5 := hcs i hiL 5 (by omega)
      simp only [eCM, List.getElem?_cons_succ, List.getElem?_cons_zero, Nat.add_zero] at c0 c1 c2 c3' c4 c5
      clear hcs hso
      have hi1 : (i : Int) < n := by omega
      have hF := findM_at L p i hiL HA.out
      have HN := Lib.hid (fun (hne : ¬ L[i].1 = p) => (fun j (hj : j < L.length) (hji : j < i + 1) => (by
        by_cases h : j < i
        · exact HA.out j hj h
        · obtain rfl : j = i := by omega
          exact hne : ¬ L[j].1 = p)))
      obtain ⟨⟨q, ⟨kd, md, tm, sz, sm⟩⟩, hx⟩ : ∃ x, L[i] = x := ⟨_, rfl⟩
      simp only [hx] at c0 c1 c2 c3' c4 c5 hF HN
      clear hx
      have hba := (Below.refl wr.heap.size wr).alloc (Nat.le_refl _) (.cells #[.string q, .int .i64 kd, .int .i64 md, .int .u32 tm, .int .i64 sz, .int .u32 sm] 91)
      have HBW := Lib.hid (And.intro (hb.trans (hba.mono hb.size)) (And.intro (hb3.trans (hba.mono hb3.size)) (hR.below hba hR.lt))); clear hba hb hb3 hR
      have x0 := HBW.out.2.2.cell 0
      have x1 := HBW.out.2.2.cell 1
      have x2 := HBW.out.2.2.cell 2
      have x3 := HBW.out.2.2.cell 3
      have x4 := HBW.out.2.2.cell 4
      simp at x0 x1 x2 x3 x4
      have f0 := HBW.out.2.2.frozen 0
      have f1 := HBW.out.2.2.frozen 1
      have f2 := HBW.out.2.2.frozen 2
      have f3 := HBW.out.2.2.frozen 3
      have f4 := HBW.out.2.2.frozen 4
      by_cases hk : q = p
      · have hF2 := Lib.hid (hF hk)
        have te : (q.toList == p.toList) = true := by rw [str_beq]; simpa using hk
        clear hk hF HN
        go_wp2_with fail
        refine bodyPost_ret (res_blk_tmp rfl _ _ (w.heap.size + 1) 75 #[.int .i64 kd, .int .i64 md, .int .u32 tm, .int .i64 sz, .int .u32 sm] _ rfl (((((HBW.out.2.2.put 0 (.int .i64 kd)).put 1 (.int .i64 md)).put 2 (.int .u32 tm)).put 3 (.int .i64 sz)).put 4 (.int .u32 sm)) Tryz.underlying75 rfl (by kernel_rfl)) rfl ⟨by rw [hF2.out]; rfl, ?_⟩
        exact ((((HBW.out.1.setCell (p := ⟨w.heap.size + 1, 0, none⟩) (Nat.le_succ _) (.int .i64 kd)).setCell (p := ⟨w.heap.size + 1, 1, none⟩) (Nat.le_succ _) (.int .i64 md)).setCell (p := ⟨w.heap.size + 1, 2, none⟩) (Nat.le_succ _) (.int .u32 tm)).setCell (p := ⟨w.heap.size + 1, 3, none⟩) (Nat.le_succ _) (.int .i64 sz)).setCell (p := ⟨w.heap.size + 1, 4, none⟩) (Nat.le_succ _) (.int .u32 sm)
      · have HN2 := Lib.hid (HN.out hk)
        have te : (q.toList == p.toList) = false := by rw [str_beq]; simpa using hk
        clear hk hF HN
        go_wp2_with fail
        go_roundw
        case rel => exact ⟨i + 1, by omega, by go_num, HN2.out, HBW.out.1, HBW.out.2.1⟩
        case measure => simp [intOf]; omega
    · obtain rfl : i = n := by omega
      have hF2 := Lib.hid (findM_none (L := L) (p := p) (fun m hm => by
        obtain ⟨j, hj, rfl⟩ := List.getElem_of_mem hm
        exact HA.out j hj (by have := HL.out; omega)))
      have HBW := Lib.hid (And.intro hb hR); clear hb hb3 hR hslr
      have x0 := HBW.out.2.cell 0
      have x1 := HBW.out.2.cell 1
      have x2 := HBW.out.2.cell 2
      have x3 := HBW.out.2.cell 3
      have x4 := HBW.out.2.cell 4
      simp at x0 x1 x2 x3 x4
      have f0 := HBW.out.2.frozen 0
      have f1 := HBW.out.2.frozen 1
      have f2 := HBW.out.2.frozen 2
      have f3 := HBW.out.2.frozen 3
      have f4 := HBW.out.2.frozen 4
      go_wp2_with fail
      refine bodyPost_ret (res_blk_tmp rfl _ _ (w.heap.size + 1) 75 #[.int .i64 0, .int .i64 0, .int .u32 0, .int .i64 0, .int .u32 0] _ rfl (((((HBW.out.2.put 0 (.int .i64 0)).put 1 (.int .i64 0)).put 2 (.int .u32 0)).put 3 (.int .i64 0)).put 4 (.int .u32 0)) Tryz.underlying75 rfl (by kernel_rfl)) rfl ⟨by rw [hF2.out]; rfl, ?_⟩
      exact ((((HBW.out.1.setCell (p := ⟨w.heap.size + 1, 0, none⟩) (Nat.le_succ _) (.int .i64 0)).setCell (p := ⟨w.heap.size + 1, 1, none⟩) (Nat.le_succ _) (.int .i64 0)).setCell (p := ⟨w.heap.size + 1, 2, none⟩) (Nat.le_succ _) (.int .u32 0)).setCell (p := ⟨w.heap.size + 1, 3, none⟩) (Nat.le_succ _) (.int .i64 0)).setCell (p := ⟨w.heap.size + 1, 4, none⟩) (Nat.le_succ _) (.int .u32 0)
end Go.Proofs.YteofiffbobbdmaaGreatDoor
/- slices.SortStableFunc at rows of api.Mark: two stretches side by side change places. -/
set_option linter.unusedVariables false
set_option linter.unusedSimpArgs false
namespace Go.Proofs.YteofiffbobbdmaaGreatDoor
open Go Go.RowKit
open Sw
set_option maxRecDepth 100000 in
set_option maxHeartbeats 4000000 in
theorem rotateMK_any (w : World) (base : Nat) (A : Option Addr) (c : Nat) (cv : Value) (n a m b : Nat) (P U V Q : List ({ s : ByteArray // s.size ≤ 90000 } × Pr)) (hn : n ≤ 1000000) (hlen : (P ++ U ++ V ++ Q).length = n) (hP : P.length = a) (hU : a + U.length = m) (hV : m + V.length = b) (hU0 : 0 < U.length) (hV0 : 0 < V.length)
    (hown : w.ownsRow base 91 6 (.slice A n c) n ((P ++ U ++ V ++ Q).flatMap eCMK)) :
    Calls Tryz.prog 175 #[.slice A n c, .int .i64 a, .int .i64 m, .int .i64 b, cv] w fun e w' => e = .returned (.tuple #[]) ∧ w'.ownsRow base 91 6 (.slice A n c) n ((P ++ V ++ U ++ Q).flatMap eCMK) ∧ w.grownBy w' (Value.slice A n c).ownBlock := by
  have hlen' : P.length + U.length + V.length + Q.length = n := by rw [← hlen]; simp only [List.length_append]
  obtain ⟨T, hT⟩ : ∃ T, P ++ V ++ U ++ Q = T := ⟨_, rfl⟩
  have HT := Lib.hid hT
  have HO := Lib.hid (And.intro hown hlen)
  rw [hT]
  clear hT hown hlen
  have w1 : IntKind.i64.wrap ((m : Int) - a) = m - a := IntWalk.i64_in _ (by omega)
  have w2 : IntKind.i64.wrap ((b : Int) - m) = b - m := IntWalk.i64_in _ (by omega)
  go_enter Tryz.func175, Tryz.ntmps175
  go_wp2_with fail
  go_loopw [10, 11] (fun iv jv wr => ∃ (i j : Nat) (P' U' V' Q' : List ({ s : ByteArray // s.size ≤ 90000 } × Pr)), iv = .int .i64 i ∧ jv = .int .i64 j ∧ 0 < i ∧ 0 < j ∧ U'.length = i ∧ V'.length = j ∧ P'.length + i = m ∧ P' ++ V' ++ U' ++ Q' = T ∧ (P' ++ U' ++ V' ++ Q').length = n ∧ wr.ownsRow base 91 6 (.slice A n c) n ((P' ++ U' ++ V' ++ Q').flatMap eCMK) ∧ w.grownBy wr (Value.slice A n c).ownBlock) (fun iv jv _ => (intOf iv + intOf jv).toNat)
  case atStart => exact ⟨U.length, V.length, P, U, V, Q, by go_num, by go_num, hU0, hV0, rfl, rfl, by omega, HT.out, HO.out.2, HO.out.1, grown_refl _ _⟩
  case round =>
    obtain ⟨i, j, P', U', V', Q', rfl, rfl, hi0, hj0, hU', hV', hPi, hTT, hln, hrow, hg⟩ := hrel
    have hln' : P'.length + i + j + Q'.length = n := by rw [← hln, ← hU', ← hV']; simp only [List.length_append]
    have HG := Lib.hid (And.intro hTT (And.intro hln (And.intro hrow hg))); clear hTT hln hrow hg HO
    have p1 : (m : Int) - i = ((m - i : Nat) : Int) := by omega
    have p2 : (m : Int) + j - i = ((m + j - i : Nat) : Int) := by omega
    rcases Nat.lt_trichotomy i j with h | h | h
    · have hne : ((i : Int) != j) = true := by rw [bne_iff_ne]; omega
      have hgt : ¬ (j : Int) < i := by omega
      have w3 : IntKind.i64.wrap ((j : Int) - i) = ((j - i : Nat) : Int) := by rw [IntWalk.i64_in _ (by omega)]; omega
      have w4 : IntKind.i64.wrap (((m - i : Nat) : Int)) = ((m - i : Nat) : Int) := IntWalk.i64_in _ (by omega)
      have w5 : IntKind.i64.wrap ((m : Int) + j) = m + j := IntWalk.i64_in _ (by omega)
      have w6 : IntKind.i64.wrap (((m + j - i : Nat) : Int)) = ((m + j - i : Nat) : Int) := IntWalk.i64_in _ (by omega)
      have hsp : V' = V'.take (j - i) ++ V'.drop (j - i) := (List.take_append_drop _ _).symm
      have hse := swL_end P' U' (V'.take (j - i)) (V'.drop (j - i)) Q' (by rw [List.length_drop]; omega)
      have hl1 : (V'.take (j - i)).length = j - i := by rw [List.length_take]; omega
      have e1 : P' ++ U' ++ V'.take (j - i) ++ V'.drop (j - i) ++ Q' = P' ++ U' ++ V' ++ Q' := by
        conv => rhs; rw [hsp]
        simp only [List.append_assoc]
      rw [e1, hU', hl1, show P'.length + i + (j - i) = m + j - i by omega, show P'.length = m - i by omega] at hse
      have HS := Lib.hid (swapRangeMK_any wr base (.slice A n c) cv n (m - i) (m + j - i) i _ HG.out.2.1 hn (by omega) (by omega) HG.out.2.2.1)
      rw [hse] at HS
      have hT2 : P' ++ V'.take (j - i) ++ V'.drop (j - i) ++ (U' ++ Q') = T := by
        rw [← HG.out.1]
        conv => rhs; rw [hsp]
        simp only [List.append_assoc]
      have hl2 : (P' ++ V'.drop (j - i) ++ V'.take (j - i) ++ (U' ++ Q')).length = n := by simp only [List.length_append, List.length_drop, hl1]; omega
      have e2 : P' ++ V'.drop (j - i) ++ V'.take (j - i) ++ U' ++ Q' = P' ++ V'.drop (j - i) ++ V'.take (j - i) ++ (U' ++ Q') := by simp only [List.append_assoc]
      rw [e2] at HS
      have hl3 : (V'.drop (j - i)).length = i := by rw [List.length_drop]; omega
      have HX := Lib.hid (And.intro hT2 (And.intro hl2 (And.intro hl1 hl3))); clear hT2 hl2 hl1 hl3 e1 e2 hse hsp
      go_wp2_with fail
      refine HS.out.mono ?_
      rintro e w3' ⟨rfl, hrow2, hg2⟩
      have H3 := Lib.hid (And.intro hrow2 (grown_trans HG.out.2.2.2 hg2)); clear hrow2 hg2 HS
      go_wp2_with fail
      go_roundw
      case rel => exact ⟨i, j - i, P', V'.drop (j - i), V'.take (j - i), U' ++ Q', rfl, by go_num, hi0, by omega, HX.out.2.2.2, HX.out.2.2.1, by omega, HX.out.1, HX.out.2.1, H3.out.1, H3.out.2⟩
      case measure => simp [intOf]; omega
    · subst h
      have hne : ((i : Int) != i) = false := by simp
      have w4 : IntKind.i64.wrap (((m - i : Nat) : Int)) = ((m - i : Nat) : Int) := IntWalk.i64_in _ (by omega)
      have hse := swL_end P' U' [] V' Q' (by omega)
      rw [hU', List.length_nil, Nat.add_zero, show P'.length + i = m from hPi, show P'.length = m - i by omega, List.append_nil, List.append_nil] at hse
      have HS := Lib.hid (swapRangeMK_any wr base (.slice A n c) cv n (m - i) m i _ HG.out.2.1 hn (by omega) (by omega) HG.out.2.2.1)
      rw [hse, HG.out.1] at HS
      clear hse
      go_wp2_with fail
      refine HS.out.mono ?_
      rintro e w3' ⟨rfl, hrow2, hg2⟩
      have H3 := Lib.hid (And.intro hrow2 (grown_trans HG.out.2.2.2 hg2)); clear hrow2 hg2 HS
      go_wp2_with fail
      go_end0
      exact ⟨rfl, H3.out.1, H3.out.2⟩
    · have hne : ((i : Int) != j) = true := by rw [bne_iff_ne]; omega
      have hgt : (j : Int) < i := by omega
      have w3 : IntKind.i64.wrap ((i : Int) - j) = ((i - j : Nat) : Int) := by rw [IntWalk.i64_in _ (by omega)]; omega
      have w4 : IntKind.i64.wrap (((m - i : Nat) : Int)) = ((m - i : Nat) : Int) := IntWalk.i64_in _ (by omega)
      have hsp : U' = U'.take j ++ U'.drop j := (List.take_append_drop _ _).symm
      have hl1 : (U'.take j).length = j := by rw [List.length_take]; omega
      have hl3 : (U'.drop j).length = i - j := by rw [List.length_drop]; omega
      have hse := swL_end P' (U'.take j) (U'.drop j) V' Q' (by omega)
      have e1 : P' ++ U'.take j ++ U'.drop j ++ V' ++ Q' = P' ++ U' ++ V' ++ Q' := by
        conv => rhs; rw [hsp]
        simp only [List.append_assoc]
      rw [e1, hl1, hl3, show P'.length + j + (i - j) = m by omega, show P'.length = m - i by omega] at hse
      have HS := Lib.hid (swapRangeMK_any wr base (.slice A n c) cv n (m - i) m j _ HG.out.2.1 hn (by omega) (by omega) HG.out.2.2.1)
      rw [hse] at HS
      have hT2 : P' ++ V' ++ U'.take j ++ U'.drop j ++ Q' = T := by
        rw [← HG.out.1]
        conv => rhs; rw [hsp]
        simp only [List.append_assoc]
      have hl2 : (P' ++ V' ++ U'.drop j ++ U'.take j ++ Q').length = n := by simp only [List.length_append, hl1, hl3]; omega
      have HX := Lib.hid (And.intro hT2 (And.intro hl2 (And.intro hl1 hl3))); clear hT2 hl2 hl1 hl3 e1 hse hsp
      go_wp2_with fail
      refine HS.out.mono ?_
      rintro e w3' ⟨rfl, hrow2, hg2⟩
      have H3 := Lib.hid (And.intro hrow2 (grown_trans HG.out.2.2.2 hg2)); clear hrow2 hg2 HS
      go_wp2_with fail
      go_roundw
      case rel => exact ⟨i - j, j, P' ++ V', U'.drop j, U'.take j, Q', by go_num, rfl, by omega, hj0, HX.out.2.2.2, HX.out.2.2.1, by rw [List.length_append]; omega, HX.out.1, HX.out.2.1, H3.out.1, H3.out.2⟩
      case measure => simp [intOf]; omega
end Go.Proofs.YteofiffbobbdmaaGreatDoor
/- A stable sort, plainly: rows of things with the place that each came from. -/
set_option linter.unusedVariables false
set_option linter.unusedSimpArgs false
namespace Sw
section
variable {α : Type}
/-- a comparison that is an order but for ties -/
structure Cmp (c : α → α → Int) : Prop where
  irr : ∀ x, ¬ c x x < 0
  asym : ∀ x y, c x y < 0 → ¬ c y x < 0
  trans : ∀ x y z, ¬ c y x < 0 → ¬ c z y < 0 → ¬ c z x < 0
/-- ahead, ties by the place -/
def Ah (c : α → α → Int) (p q : α × Nat) : Prop := c p.1 q.1 < 0 ∨ (¬ c q.1 p.1 < 0 ∧ p.2 < q.2)
theorem Ah.trans {c : α → α → Int} (C : Cmp c) {p q r : α × Nat} (h : Ah c p q) (k : Ah c q r) : Ah c p r := by
  have tr : ∀ x y z, c x y < 0 → ¬ c z y < 0 → c x z < 0 := fun x y z h1 h2 => by
    by_cases h3 : c x z < 0
    · exact h3
    · exact absurd h1 (C.trans y z x h2 h3)
  have tr2 : ∀ x y z, ¬ c y x < 0 → c y z < 0 → c x z < 0 := fun x y z h1 h2 => by
    by_cases h3 : c x z < 0
    · exact h3
    · exact absurd h2 (C.trans z x y h3 h1)
  rcases h with h | ⟨h1, h2⟩
  · rcases k with k | ⟨k1, k2⟩
    · exact .inl (tr _ _ _ h (C.asym _ _ k))
    · exact .inl (tr _ _ _ h k1)
  · rcases k with k | ⟨k1, k2⟩
    · exact .inl (tr2 _ _ _ h1 k)
    · by_cases h3 : c p.1 r.1 < 0
      · exact .inl h3
      · exact .inr ⟨C.trans _ _ _ h1 k1, Nat.lt_trans h2 k2⟩
theorem Ah.irr {c : α → α → Int} (C : Cmp c) (p : α × Nat) : ¬ Ah c p p := by
  rintro (h | ⟨_, h⟩)
  · exact C.irr _ h
  · exact Nat.lt_irrefl _ h
theorem Ah.total {c : α → α → Int} (C : Cmp c) {p q : α × Nat} (h : p.2 ≠ q.2) : Ah c p q ∨ Ah c q p := by
  by_cases h1 : c p.1 q.1 < 0
  · exact .inl (.inl h1)
  · by_cases h2 : c q.1 p.1 < 0
    · exact .inr (.inl h2)
    · rcases Nat.lt_or_gt_of_ne h with h3 | h3
      · exact .inl (.inr ⟨h2, h3⟩)
      · exact .inr (.inr ⟨h1, h3⟩)
/-- q came behind p: q is ahead of p just if it compares less -/
theorem Ah.of_right {c : α → α → Int} (C : Cmp c) {p q : α × Nat} (h : p.2 < q.2) : Ah c q p ↔ c q.1 p.1 < 0 := by
  constructor
  · rintro (h1 | ⟨_, h1⟩)
    · exact h1
    · omega
  · exact fun h1 => .inl h1
theorem Ah.of_left {c : α → α → Int} (C : Cmp c) {p q : α × Nat} (h : p.2 < q.2) : Ah c p q ↔ ¬ c q.1 p.1 < 0 := by
  constructor
  · rintro (h1 | ⟨h1, _⟩)
    · exact C.asym _ _ h1
    · exact h1
  · intro h1
    by_cases h2 : c p.1 q.1 < 0
    · exact .inl h2
    · exact .inr ⟨h1, h⟩
def UpS (c : α → α → Int) (l : List (α × Nat)) : Prop := l.Pairwise (Ah c)
/-- all of l came ahead of all of m -/
def Came (l m : List (α × Nat)) : Prop := ∀ p ∈ l, ∀ q ∈ m, p.2 < q.2
theorem UpS.get {c : α → α → Int} {l : List (α × Nat)} (h : UpS c l) {i j : Nat} (hij : i < j) (hj : j < l.length) : Ah c (l[i]'(by omega)) l[j] := List.pairwise_iff_getElem.1 h i j (by omega) hj hij
/-- two halves of two rows, cut where they cross -/
theorem cut_up {c : α → α → Int} (C : Cmp c) {L R : List (α × Nat)} (hL : UpS c L) (hR : UpS c R) (i j : Nat) (hi : i ≤ L.length) (hj : j ≤ R.length)
    (h1 : ∀ (h : 0 < i) (k : j < R.length), Ah c (L[i - 1]'(by omega)) R[j]) (h2 : ∀ (h : i < L.length) (k : 0 < j), Ah c (R[j - 1]'(by omega)) L[i]) :
    (∀ p ∈ L.take i ++ R.take j, ∀ q ∈ L.drop i ++ R.drop j, Ah c p q) := by
  have le : ∀ (l : List (α × Nat)), UpS c l → ∀ (a b : Nat) (ha : a ≤ b) (hb : b < l.length), a = b ∨ Ah c (l[a]'(by omega)) l[b] := fun l hl a b ha hb => by
    rcases Nat.lt_or_eq_of_le ha with h | h
    · exact .inr (hl.get h hb)
    · exact .inl h
  intro p hp q hq
  rcases List.mem_append.1 hp with hp | hp
  · obtain ⟨a, ha, rfl⟩ := List.getElem_of_mem hp
    rw [List.length_take] at ha
    rw [List.getElem_take]
    rcases List.mem_append.1 hq with hq | hq
    · obtain ⟨b, hb, rfl⟩ := List.getElem_of_mem hq
      rw [List.length_drop] at hb
      rw [List.getElem_drop]
      exact hL.get (by omega) (by omega)
    · obtain ⟨b, hb, rfl⟩ := List.getElem_of_mem hq
      rw [List.length_drop] at hb
      rw [List.getElem_drop]
      have hx := h1 (by omega) (by omega)
      have hy : Ah c (L[a]'(by omega)) (R[j]'(by omega)) := by
        rcases le L hL a (i - 1) (by omega) (by omega) with e | e
        · have : L[a]'(by omega) = L[i - 1]'(by omega) := by congr 1
          rw [this]; exact hx
        · exact e.trans C hx
      rcases le R hR j (j + b) (by omega) (by omega) with e | e
      · have : R[j]'(by omega) = R[j + b]'(by omega) := by congr 1
        rw [← this]; exact hy
      · exact hy.trans C e
  · obtain ⟨a, ha, rfl⟩ := List.getElem_of_mem hp
    rw [List.length_take] at ha
    rw [List.getElem_take]
    rcases List.mem_append.1 hq with hq | hq
    · obtain ⟨b, hb, rfl⟩ := List.getElem_of_mem hq
      rw [List.length_drop] at hb
      rw [List.getElem_drop]
      have hx := h2 (by omega) (by omega)
      have hy : Ah c (R[a]'(by omega)) (L[i]'(by omega)) := by
        rcases le R hR a (j - 1) (by omega) (by omega) with e | e
        · have : R[a]'(by omega) = R[j - 1]'(by omega) := by congr 1
          rw [this]; exact hx
        · exact e.trans C hx
      rcases le L hL i (i + b) (by omega) (by omega) with e | e
      · have : L[i]'(by omega) = L[i + b]'(by omega) := by congr 1
        rw [← this]; exact hy
      · exact hy.trans C e
    · obtain ⟨b, hb, rfl⟩ := List.getElem_of_mem hq
      rw [List.length_drop] at hb
      rw [List.getElem_drop]
      exact hR.get (by omega) (by omega)
theorem UpS.app {c : α → α → Int} {l m : List (α × Nat)} (hl : UpS c l) (hm : UpS c m) (h : ∀ p ∈ l, ∀ q ∈ m, Ah c p q) : UpS c (l ++ m) := List.pairwise_append.2 ⟨hl, hm, h⟩
theorem UpS.left {c : α → α → Int} {l m : List (α × Nat)} (h : UpS c (l ++ m)) : UpS c l := (List.pairwise_append.1 h).1
theorem UpS.right {c : α → α → Int} {l m : List (α × Nat)} (h : UpS c (l ++ m)) : UpS c m := (List.pairwise_append.1 h).2.1
/-- of one set of things there is one row that rises -/
theorem UpS.one {c : α → α → Int} (C : Cmp c) : ∀ {l m : List (α × Nat)}, UpS c l → UpS c m → l.Perm m → l = m
  | [], m, _, _, h => by rw [List.nil_perm.1 h]
  | x :: l, [], _, _, h => by have := h.length_eq; simp at this
  | x :: l, y :: m, hl, hm, h => by
    obtain ⟨h1, h2⟩ := List.pairwise_cons.1 hl
    obtain ⟨k1, k2⟩ := List.pairwise_cons.1 hm
    have hxy : x = y := by
      rcases List.mem_cons.1 (h.mem_iff.1 (List.mem_cons_self (a := x))) with e | e
      · exact e
      · rcases List.mem_cons.1 (h.mem_iff.2 (List.mem_cons_self (a := y))) with e' | e'
        · exact e'.symm
        · exact absurd ((k1 x e).trans C (h1 y e')) (Ah.irr C y)
    subst hxy
    rw [UpS.one C h2 k2 ((List.perm_cons x).1 h)]
theorem UpS.ins {c : α → α → Int} {S1 S2 : List (α × Nat)} {x : α × Nat} (h : UpS c (S1 ++ S2)) (h1 : ∀ p ∈ S1, Ah c p x) (h2 : ∀ q ∈ S2, Ah c x q) : UpS c (S1 ++ x :: S2) :=
  List.pairwise_append.2 ⟨h.left, List.pairwise_cons.2 ⟨h2, h.right⟩, fun p hp q hq => by
    rcases List.mem_cons.1 hq with rfl | hq
    · exact h1 p hp
    · exact (List.pairwise_append.1 h).2.2 p hp q hq⟩
theorem UpS.lead {c : α → α → Int} (C : Cmp c) {S0 : List (α × Nat)} {x y : α × Nat} (h : UpS c (S0 ++ [y])) (hy : Ah c y x) : ∀ p ∈ S0 ++ [y], Ah c p x := fun p hp => by
  rcases List.mem_append.1 hp with hp | hp
  · exact ((List.pairwise_append.1 h).2.2 p hp y (by simp)).trans C hy
  · rw [List.mem_singleton.1 hp]; exact hy
theorem ins_perm {β : Type} (S1 S2 T : List β) (x : β) : (S1 ++ x :: S2 ++ T).Perm ((S1 ++ S2) ++ x :: T) := by
  have h1 : (S1 ++ x :: S2 ++ T).Perm (x :: (S1 ++ S2 ++ T)) := by rw [List.append_assoc, List.cons_append, List.append_assoc]; exact List.perm_middle
  exact h1.trans List.perm_middle.symm
theorem ins_round {c : α → α → Int} {S S1 S2 T X : List (α × Nat)} {x : α × Nat} (hS : S1 ++ S2 = S) (hp : (S ++ x :: T).Perm X) (hu : UpS c S) (hc : ∀ p ∈ S, ∀ q ∈ x :: T, p.2 < q.2) (hr : (x :: T).Pairwise fun p q => p.2 < q.2)
    (h1 : ∀ p ∈ S1, Ah c p x) (h2 : ∀ q ∈ S2, Ah c x q) :
    (S1 ++ x :: S2 ++ T).Perm X ∧ UpS c (S1 ++ x :: S2) ∧ (∀ p ∈ S1 ++ x :: S2, ∀ q ∈ T, p.2 < q.2) ∧ (T.Pairwise fun p q => p.2 < q.2) := by
  subst hS
  refine ⟨(ins_perm S1 S2 T x).trans hp, hu.ins h1 h2, fun p hp' q hq => ?_, (List.pairwise_cons.1 hr).2⟩
  rcases List.mem_append.1 hp' with h | h
  · exact hc p (List.mem_append_left _ h) q (List.mem_cons_of_mem _ hq)
  · rcases List.mem_cons.1 h with rfl | h
    · exact (List.pairwise_cons.1 hr).1 q hq
    · exact hc p (List.mem_append_right _ h) q (List.mem_cons_of_mem _ hq)
theorem UpS.put {c : α → α → Int} (C : Cmp c) {R : List (α × Nat)} {x : α × Nat} (h : UpS c R) (k : Nat) (hkR : k ≤ R.length) (h1 : ∀ z, 0 < k → R[k - 1]? = some z → Ah c z x) (h2 : ∀ z, R[k]? = some z → Ah c x z) : UpS c (R.take k ++ x :: R.drop k) := by
  refine UpS.ins (by rw [List.take_append_drop]; exact h) (fun p hp => ?_) (fun q hq => ?_)
  · obtain ⟨t, ht, rfl⟩ := List.getElem_of_mem hp
    rw [List.length_take] at ht
    rw [List.getElem_take]
    have hk : k - 1 < R.length ∨ R.length ≤ k - 1 := by omega
    rcases Nat.lt_or_ge t (k - 1) with h3 | h3
    · exact (h.get h3 (by omega)).trans C (h1 _ (by omega) (List.getElem?_eq_getElem (by omega)))
    · have e : t = k - 1 := by omega
      exact h1 _ (by omega) (by rw [← e]; exact List.getElem?_eq_getElem (by omega))
  · obtain ⟨t, ht, rfl⟩ := List.getElem_of_mem hq
    rw [List.length_drop] at ht
    rw [List.getElem_drop]
    have hk := h2 _ (List.getElem?_eq_getElem (by omega))
    rcases Nat.eq_zero_or_pos t with rfl | h3
    · exact hk
    · exact hk.trans C (h.get (by omega) (by omega))
theorem put_perm {β : Type} (R : List β) (x : β) (k : Nat) : (R.take k ++ x :: R.drop k).Perm (x :: R) := by
  have := List.perm_middle (a := x) (l₁ := R.take k) (l₂ := R.drop k)
  rwa [List.take_append_drop] at this
end
end Sw

/- A region that draws its order, its tail forced: the head by the quiet walk (guards and rows' loads too). Over any program. -/
set_option linter.unusedVariables false
set_option linter.unusedSimpArgs false
namespace Sw
open Go
theorem still_of_quietL {P : Program} {ops : Array Oper} {W : World} {Q : Act → Prop} : ∀ (l : List Oper) (a : Act), wpQuiet P ops (fun w' => ∃ _ : Unit, w' = W) Q l a → wpStill P ops W Q l a
  | [], a, h => h
  | o :: l, a, h => by
    simp only [wpQuiet, wpStill] at *
    split
    · rename_i hw
      rw [if_pos hw] at h
      obtain ⟨v, h1, h2⟩ := h
      have h3 := h1 W ⟨(), rfl⟩
      have h4 := still_of_quietL l _ h2
      unfold Oper.quietAt at h3
      unfold Oper.still
      generalize (execOp a.eval o).run P W = r at *
      cases r with
      | ok n w' =>
        cases n <;> simp only [Oper.quietUpon] at h3 <;> simp only [Oper.stillUpon]
        case value u => exact ⟨h3.1, by rw [h3.2]; exact h4⟩
        case skip => exact ⟨h3.1, by rw [← h3.2]; exact h4⟩
        case enter f args => exact ⟨h3.1, v, h3.2.mono fun e w'' he => ⟨he.1, by obtain ⟨_, h⟩ := he.2; exact h⟩, h4⟩
      | halt x w' => simp only [Oper.quietUpon] at h3
    · rename_i hw
      rw [if_neg hw] at h
      exact still_of_quietL l _ h
theorem region_tail {P : Program} {id : Nat} {Q : Exit → Act → World → Prop} {a : Act} {w : World} {l : List Oper} (n : Nat) (hm : P.follows .mixedOrders = true) (hB : Region.lexTailB .any l.toArray n = true) (W : World) (hW : w.drew = W)
    (h : wpQuiet P l.toArray (fun w' => ∃ _ : Unit, w' = W) (fun a' => wpList P l.toArray Q (l.drop n) a' W) (l.take n) a) : (Code.region id l.toArray true).wp P Q a w := by
  subst hW
  exact wp_region_still_tail n hm hB (still_of_quietL _ _ h)
end Sw
