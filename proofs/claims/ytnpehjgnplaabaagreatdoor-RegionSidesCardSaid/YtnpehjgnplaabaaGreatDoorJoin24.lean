/- Several texts, joined for the limit of sixty files; each one opens with its own comment. -/
import Derived.Test.YtnpehjgnplaabaaGreatDoorJoin20
import Derived.Test.YtnpehjgnplaabaaGreatDoorJoin19
import Derived.Test.YtnpehjgnplaabaaGreatDoorJoin8
import Derived.Test.YtnpehjgnplaabaaGreatDoorJoin3
import Derived.Test.YtnpehjgnplaabaaGreatDoorJoin9
import Derived.Maps.OwnSet
/- Several texts, joined for the limit of sixty files; each one opens with its own comment. -/
/- Regions, plainly: what is decided of paths, one by one and region by region; what comes of it is a tree on both sides. -/
set_option linter.unusedVariables false
set_option linter.unusedSimpArgs false
namespace Sw
open Go Go.Proofs.YtnpehjgnplaabaaGreatDoor
/-- a path's nodes for both sides, and its clash -/
structure NP where
  path : ByteArray
  left : Nd
  right : Nd
  cls : Int
/-- the newest time -/
def newN (l : List NE) : Int := l.foldl (fun t e => max t e.2.time) 0
/-- which side is taken -/
def sideN (policy : Int) (a b : List NE) : Int := if policy = 3 then (if newN a < newN b then 2 else 1) else if policy = 1 ∨ policy = 2 then policy else 0
/-- a node as items -/
def oneN (p : ByteArray) (n : Nd) : List NE := if n.kind = 0 then [] else [(p, n)]
/-- a path's nodes, by a side -/
def chosenN (xs ys : List NE) (side : Int) (p : ByteArray) (c : Int) : NP := ⟨p, if side = 2 then getT ys p else getT xs p, if side = 1 then getT xs p else getT ys p, c⟩
/-- is q at p, or under it? -/
def inQ (p q : ByteArray) : Bool := decide (p = q) || inS (upsS q) p
/-- is there something under what is no directory? -/
def badN (l : List NP) (m : NP) : Bool := l.any fun n => !decide (n.path = m.path) && inQ m.path n.path && (!decide (m.left.kind = 2) && !decide (n.left.kind = 0) || !decide (m.right.kind = 2) && !decide (n.right.kind = 0))
def sideF (policy : Int) (s : StR) : Int := if s.verdict = 1 then 2 else if s.verdict = 2 then 1 else if s.verdict = 3 then sideN policy (oneN s.path s.left) (oneN s.path s.right) else 0
/-- what is decided of one path -/
def firstN (policy : Int) (xs ys : List NE) (s : StR) : NP := chosenN xs ys (sideF policy s) s.path (if s.verdict = 3 then s.cls else 0)
def sideR (policy : Int) (xs ys : List NE) (p : ByteArray) : Int := sideN policy (undT p xs) (undT p ys)
/-- a path, and all under it, by one side -/
def turnN (policy : Int) (xs ys : List NE) (l : List NP) (p : ByteArray) : List NP :=
  l.map fun n => if inQ p n.path = true then chosenN xs ys (sideR policy xs ys p) n.path (if n.path = p then 4 else 0) else n
/-- one path is looked at -/
def goN (policy : Int) (xs ys : List NE) (st : List NP × List ByteArray) (m : NP) : List NP × List ByteArray :=
  if badN st.1 m = true then (turnN policy xs ys st.1 m.path, if sideR policy xs ys m.path = 2 then st.2 ++ [m.path] else st.2) else st
/-- behind the first i paths -/
def runN (policy : Int) (xs ys : List NE) (l : List NP) : Nat → List NP × List ByteArray
  | 0 => (l, [])
  | i + 1 => match (runN policy xs ys l i).1[i]? with
    | some m => goN policy xs ys (runN policy xs ys l i) m
    | none => runN policy xs ys l i
def beginN (policy : Int) (L : List MkE) (xs ys : List NE) : List NP := (allR L xs ys).map (firstN policy xs ys)
def endN (policy : Int) (L : List MkE) (xs ys : List NE) : List NP × List ByteArray := runN policy xs ys (beginN policy L xs ys) (beginN policy L xs ys).length
def leftN (l : List NP) : List NE := l.flatMap fun n => oneN n.path n.left
def rightN (l : List NP) : List NE := l.flatMap fun n => oneN n.path n.right
def clashN (l : List NP) : List (ByteArray × Int) := l.filterMap fun n => if n.cls = 0 then none else some (n.path, n.cls)
def heldN (L : List MkE) (l : List NP) : List MkE := l.filterMap fun n => if (findM L n.path).isSome = true ∧ ¬ printN n.left = printN n.right then some (n.path, (findM L n.path).getD ⟨0, 0, 0, 0, 0⟩) else none
section
variable {policy : Int} {xs ys : List NE} {l : List NP}
theorem inQ_iff (p q : ByteArray) : inQ p q = true ↔ p = q ∨ p ∈ upsS q := by
  unfold inQ
  rw [Bool.or_eq_true, decide_eq_true_eq, inS_iff]
theorem inQ_self (p : ByteArray) : inQ p p = true := (inQ_iff p p).2 (.inl rfl)
theorem inQ_trans {p q r : ByteArray} (h1 : inQ p q = true) (h2 : inQ q r = true) : inQ p r = true := by
  rw [inQ_iff] at h1 h2 ⊢
  rcases h1 with rfl | h1
  · exact h2
  · rcases h2 with rfl | h2
    · exact .inr h1
    · exact .inr (ups_trans h1 h2)
/-- of two that a path lies under, one lies under the other -/
theorem ups_chain {u v p : ByteArray} (h1 : u ∈ upsS p) (h2 : v ∈ upsS p) : u = v ∨ u ∈ upsS v ∨ v ∈ upsS u := by
  obtain ⟨k, hk1, hk2, hk3, _⟩ := ups_mem h1
  obtain ⟨m, hm1, hm2, hm3, _⟩ := ups_mem h2
  rcases Nat.lt_trichotomy k m with h | h | h
  · exact .inr (.inl (ups_of (k := k) hk1 (by rw [hm3, List.length_take]; omega) (by rw [hk3, hm3, List.take_take, Nat.min_eq_left (by omega)])))
  · subst h
    exact .inl (parts_inj (by rw [hk3, hm3]) (by rw [hk3, List.length_take]; omega))
  · exact .inr (.inr (ups_of (k := m) hm1 (by rw [hk3, List.length_take]; omega) (by rw [hm3, hk3, List.take_take, Nat.min_eq_left (by omega)])))
theorem bad_iff (l : List NP) (m : NP) : badN l m = true ↔ ∃ n ∈ l, m.path ∈ upsS n.path ∧ ((¬ m.left.kind = 2 ∧ ¬ n.left.kind = 0) ∨ (¬ m.right.kind = 2 ∧ ¬ n.right.kind = 0)) := by
  unfold badN
  rw [List.any_eq_true]
  constructor
  · rintro ⟨n, hn, h⟩
    simp only [Bool.and_eq_true, Bool.or_eq_true, Bool.not_eq_true', decide_eq_false_iff_not] at h
    obtain ⟨⟨h1, h2⟩, h3⟩ := h
    rcases (inQ_iff _ _).1 h2 with h2 | h2
    · exact absurd h2.symm h1
    · exact ⟨n, hn, h2, h3⟩
  · rintro ⟨n, hn, h2, h3⟩
    refine ⟨n, hn, ?_⟩
    simp only [Bool.and_eq_true, Bool.or_eq_true, Bool.not_eq_true', decide_eq_false_iff_not]
    exact ⟨⟨fun e => by rw [e] at h2; exact ups_self h2, (inQ_iff _ _).2 (.inr h2)⟩, h3⟩
theorem side_cases (policy : Int) : (∀ a b, sideN policy a b = 0) ∨ (∀ a b, sideN policy a b = 1 ∨ sideN policy a b = 2) := by
  by_cases h3 : policy = 3
  · refine .inr (fun a b => ?_)
    unfold sideN
    rw [if_pos h3]
    split
    · exact .inr rfl
    · exact .inl rfl
  · by_cases h1 : policy = 1 ∨ policy = 2
    · refine .inr (fun a b => ?_)
      unfold sideN
      rw [if_neg h3, if_pos h1]
      exact h1
    · refine .inl (fun a b => ?_)
      unfold sideN
      rw [if_neg h3, if_neg h1]
/-- what the nodes of a path may be -/
def ShN (policy : Int) (xs ys : List NE) (n : NP) : Prop :=
  ((n.left = getT xs n.path ∨ n.left = getT ys n.path) ∧ (n.right = getT xs n.path ∨ n.right = getT ys n.path)) ∧ (n.left.kind = n.right.kind ∨ (n.left = getT xs n.path ∧ n.right = getT ys n.path ∧ ∀ a b, sideN policy a b = 0))
theorem chosen_sh (side : Int) (p : ByteArray) (c : Int) (h : side = 1 ∨ side = 2 ∨ (getT xs p).kind = (getT ys p).kind ∨ ∀ a b, sideN policy a b = 0) : ShN policy xs ys (chosenN xs ys side p c) := by
  unfold ShN chosenN
  simp only
  by_cases h1 : side = 1
  · subst h1
    simp
  · by_cases h2 : side = 2
    · subst h2
      simp
    · rw [if_neg h1, if_neg h2]
      refine ⟨⟨.inl rfl, .inr rfl⟩, ?_⟩
      rcases h with h | h | h | h
      · exact absurd h h1
      · exact absurd h h2
      · exact .inl h
      · exact .inr ⟨rfl, rfl, h⟩
theorem kind_of_print {a b : Nd} (h : printN a = printN b) : a.kind = b.kind := congrArg Pr.kind h
theorem first_sh (L : List MkE) (p : ByteArray) : ShN policy xs ys (firstN policy xs ys (stepR L xs ys p)) := by
  unfold firstN
  refine chosen_sh _ _ _ ?_
  unfold sideF stepR decideN
  simp only
  split
  · rename_i h
    exact .inr (.inr (.inl (kind_of_print h)))
  · split
    · exact .inr (.inl rfl)
    · split
      · exact .inl rfl
      · rcases side_cases policy with h | h
        · exact .inr (.inr (.inr h))
        · simp only [Int.reduceEq, if_false, if_true]
          rcases h (oneN p (getT xs p)) (oneN p (getT ys p)) with h | h
          · exact .inl h
          · exact .inr (.inl h)
theorem turn_sh (p : ByteArray) (h : ∀ n ∈ l, ShN policy xs ys n) : ∀ n ∈ turnN policy xs ys l p, ShN policy xs ys n := fun n hn => by
  obtain ⟨m, hm, rfl⟩ := List.mem_map.1 hn
  split
  · refine chosen_sh _ _ _ ?_
    rcases side_cases policy with h | h
    · exact .inr (.inr (.inr h))
    · rcases h (undT p xs) (undT p ys) with h | h
      · exact .inl h
      · exact .inr (.inl h)
  · exact h m hm
theorem turn_path (p : ByteArray) : (turnN policy xs ys l p).map NP.path = l.map NP.path := by
  unfold turnN
  rw [List.map_map]
  refine List.map_congr_left fun n _ => ?_
  simp only [Function.comp]
  split <;> rfl
theorem go_path (st : List NP × List ByteArray) (m : NP) : (goN policy xs ys st m).1.map NP.path = st.1.map NP.path := by
  unfold goN
  split
  · exact turn_path _
  · rfl
theorem run_path (i : Nat) : (runN policy xs ys l i).1.map NP.path = l.map NP.path := by
  induction i with
  | zero => rfl
  | succ i ih =>
    unfold runN
    split
    · rw [go_path, ih]
    · exact ih
theorem run_len (i : Nat) : (runN policy xs ys l i).1.length = l.length := by
  have := congrArg List.length (run_path (policy := policy) (xs := xs) (ys := ys) (l := l) i)
  simpa using this
theorem run_sh (h : ∀ n ∈ l, ShN policy xs ys n) (i : Nat) : ∀ n ∈ (runN policy xs ys l i).1, ShN policy xs ys n := by
  induction i with
  | zero => exact h
  | succ i ih =>
    unfold runN
    split
    · unfold goN
      split
      · exact turn_sh _ ih
      · exact ih
    · exact ih
theorem ti_dir {zs : List NE} (h : TI zs) {p u : ByteArray} (hu : u ∈ upsS p) (hk : ¬ (getT zs p).kind = 0) : (getT zs u).kind = 2 := by
  obtain ⟨d, hd, rfl, hd2⟩ := h.par _ (getT_kind h.up hk) u hu
  rw [getT_in h.up hd]
  exact hd2
/-- a region that is turned leaves nothing bad at the paths ahead -/
theorem turn_good (hx : TI xs) (hy : TI ys) (hs : ∀ n ∈ l, ShN policy xs ys n) {p m : NP} (hp : p ∈ l) (hm : m ∈ l) (hb : badN l p = true) (hg : m = p ∨ badN l m = false) :
    badN (turnN policy xs ys l p.path) (if inQ p.path m.path = true then chosenN xs ys (sideR policy xs ys p.path) m.path (if m.path = p.path then 4 else 0) else m) = false := by
  cases hc : badN (turnN policy xs ys l p.path) (if inQ p.path m.path = true then chosenN xs ys (sideR policy xs ys p.path) m.path (if m.path = p.path then 4 else 0) else m) with
  | false => rfl
  | true =>
    exfalso
    obtain ⟨n', hn', h1, h2⟩ := (bad_iff _ _).1 hc
    obtain ⟨n, hn, rfl⟩ := List.mem_map.1 hn'
    have hmp : (if inQ p.path m.path = true then chosenN xs ys (sideR policy xs ys p.path) m.path (if m.path = p.path then 4 else 0) else m).path = m.path := by split <;> rfl
    have hnp : (if inQ p.path n.path = true then chosenN xs ys (sideR policy xs ys p.path) n.path (if n.path = p.path then 4 else 0) else n).path = n.path := by split <;> rfl
    rw [hmp, hnp] at h1
    by_cases hpm : inQ p.path m.path = true
    · have hpn : inQ p.path n.path = true := inQ_trans hpm ((inQ_iff _ _).2 (.inr h1))
      rw [if_pos hpm, if_pos hpn] at h2
      unfold chosenN at h2
      simp only at h2
      rcases h2 with ⟨a, b⟩ | ⟨a, b⟩
      · by_cases hs2 : sideR policy xs ys p.path = 2
        · rw [if_pos hs2] at a b
          exact a (ti_dir hy h1 b)
        · rw [if_neg hs2] at a b
          exact a (ti_dir hx h1 b)
      · by_cases hs2 : sideR policy xs ys p.path = 1
        · rw [if_pos hs2] at a b
          exact a (ti_dir hx h1 b)
        · rw [if_neg hs2] at a b
          exact a (ti_dir hy h1 b)
    · rw [if_neg hpm] at h2
      have hmg : badN l m = false := by
        rcases hg with rfl | hg
        · exact absurd (inQ_self _) hpm
        · exact hg
      by_cases hpn : inQ p.path n.path = true
      · rw [if_pos hpn] at h2
        have hmup : m.path ∈ upsS p.path := by
          rcases (inQ_iff _ _).1 hpn with e | e
          · rw [e]; exact h1
          · rcases ups_chain h1 e with e | e | e
            · exact absurd ((inQ_iff _ _).2 (.inl e.symm)) hpm
            · exact e
            · exact absurd ((inQ_iff _ _).2 (.inr e)) hpm
        rcases (hs m hm).2 with hk | ⟨e1, e2, e3⟩
        · obtain ⟨n0, hn0, k1, k2⟩ := (bad_iff _ _).1 hb
          have hmk : ¬ m.left.kind = 2 := by
            rcases h2 with ⟨a, _⟩ | ⟨a, _⟩
            · exact a
            · rw [hk]; exact a
          have : badN l m = true := (bad_iff _ _).2 ⟨n0, hn0, ups_trans hmup k1, by
            rcases k2 with ⟨_, k⟩ | ⟨_, k⟩
            · exact .inl ⟨hmk, k⟩
            · exact .inr ⟨by rw [← hk]; exact hmk, k⟩⟩
          rw [hmg] at this; cases this
        · have hsd : sideR policy xs ys p.path = 0 := e3 _ _
          unfold chosenN at h2
          rw [hsd] at h2
          simp only [Int.reduceEq, if_false] at h2
          rcases h2 with ⟨a, b⟩ | ⟨a, b⟩
          · exact a (by rw [e1]; exact ti_dir hx h1 b)
          · exact a (by rw [e2]; exact ti_dir hy h1 b)
      · rw [if_neg hpn] at h2
        have : badN l m = true := (bad_iff _ _).2 ⟨n, hn, h1, h2⟩
        rw [hmg] at this; cases this
/-- behind i paths nothing is bad at these -/
theorem run_good (hx : TI xs) (hy : TI ys) (hs : ∀ n ∈ l, ShN policy xs ys n) (i : Nat) : ∀ j, j < i → ∀ m, (runN policy xs ys l i).1[j]? = some m → badN (runN policy xs ys l i).1 m = false := by
  induction i with
  | zero => intro j hj; omega
  | succ i ih =>
    intro j hj m
    unfold runN
    cases hi : (runN policy xs ys l i).1[i]? with
    | none =>
      intro hm
      simp only at hm ⊢
      have hji : j < i := by
        have := List.getElem?_eq_none_iff.1 hi
        have := (List.getElem?_eq_some_iff.1 hm).1
        omega
      exact ih j hji m hm
    | some p =>
      simp only
      unfold goN
      by_cases hb : badN (runN policy xs ys l i).1 p = true
      · rw [if_pos hb]
        simp only
        intro hm
        unfold turnN at hm
        rw [List.getElem?_map, Option.map_eq_some_iff] at hm
        obtain ⟨m0, hm0, rfl⟩ := hm
        refine turn_good hx hy (run_sh hs i) (List.mem_of_getElem? hi) (List.mem_of_getElem? hm0) hb ?_
        by_cases hji : j = i
        · subst hji
          rw [hi] at hm0
          exact .inl (Option.some.inj hm0).symm
        · exact .inr (ih j (by omega) m0 hm0)
      · rw [if_neg hb]
        intro hm
        by_cases hji : j = i
        · subst hji
          rw [hi] at hm
          rw [← Option.some.inj hm]
          simpa using hb
        · exact ih j (by omega) m hm
end
theorem begin_path (policy : Int) (L : List MkE) (xs ys : List NE) : (beginN policy L xs ys).map NP.path = pathsS (L.map Prod.fst ++ xs.map Prod.fst ++ ys.map Prod.fst) := by
  unfold beginN allR
  rw [List.map_map, List.map_map]
  exact (List.map_congr_left (fun p _ => rfl)).trans (List.map_id _)
theorem begin_sh (policy : Int) (L : List MkE) (xs ys : List NE) : ∀ n ∈ beginN policy L xs ys, ShN policy xs ys n := fun n hn => by
  obtain ⟨s, hs, rfl⟩ := List.mem_map.1 hn
  obtain ⟨p, _, rfl⟩ := List.mem_map.1 hs
  exact first_sh L p
theorem one_mem {p : ByteArray} {n : Nd} {e : NE} : e ∈ oneN p n ↔ e = (p, n) ∧ ¬ n.kind = 0 := by
  unfold oneN
  split
  · rename_i h
    simp [h]
  · rename_i h
    simp [h]
theorem one_up (f : NP → Nd) : ∀ l : List NP, Rise (l.map NP.path) → Up ordS (l.flatMap fun n => oneN n.path (f n))
  | [], _ => List.Pairwise.nil
  | n :: r, h => by
    have hr := List.pairwise_cons.1 h
    have ih := one_up f r hr.2
    rw [List.flatMap_cons]
    unfold oneN
    split
    · exact ih
    · rw [List.singleton_append]
      refine List.pairwise_cons.2 ⟨fun e he => ?_, ih⟩
      obtain ⟨m, hm, he⟩ := List.mem_flatMap.1 he
      rw [(one_mem.1 he).1]
      exact hr.1 _ (List.mem_map.2 ⟨m, hm, rfl⟩)
/-- a side's items are those of a tree -/
theorem side_ti {xs ys : List NE} (hx : TI xs) (hy : TI ys) {l : List NP} (f : NP → Nd) (hf : ∀ n ∈ l, f n = getT xs n.path ∨ f n = getT ys n.path) (hr : Rise (l.map NP.path)) (ha : ∀ e, e ∈ xs ∨ e ∈ ys → e.1 ∈ l.map NP.path) (hb : ∀ m ∈ l, ∀ n ∈ l, m.path ∈ upsS n.path → ¬ (f n).kind = 0 → (f m).kind = 2) : TI (l.flatMap fun n => oneN n.path (f n)) := by
  have hmem : ∀ e, e ∈ (l.flatMap fun n => oneN n.path (f n)) ↔ ∃ n ∈ l, e = (n.path, f n) ∧ ¬ (f n).kind = 0 := fun e => by
    rw [List.mem_flatMap]
    exact ⟨fun ⟨n, hn, h⟩ => ⟨n, hn, one_mem.1 h⟩, fun ⟨n, hn, h⟩ => ⟨n, hn, one_mem.2 h⟩⟩
  have hin : ∀ n ∈ l, ¬ (f n).kind = 0 → (n.path, f n) ∈ xs ∨ (n.path, f n) ∈ ys := fun n hn hk => by
    rcases hf n hn with e | e
    · rw [e] at hk ⊢; exact .inl (getT_kind hx.up hk)
    · rw [e] at hk ⊢; exact .inr (getT_kind hy.up hk)
  refine ⟨one_up f l hr, fun e he => ?_, fun e he => ?_, fun e he u hu => ?_⟩
  · obtain ⟨n, hn, rfl, hk⟩ := (hmem e).1 he
    rcases hin n hn hk with h | h
    · exact hx.paths _ h
    · exact hy.paths _ h
  · obtain ⟨n, hn, rfl, hk⟩ := (hmem e).1 he
    rcases hin n hn hk with h | h
    · exact hx.nod _ h
    · exact hy.nod _ h
  · obtain ⟨n, hn, rfl, hk⟩ := (hmem e).1 he
    have hup : u ∈ l.map NP.path := by
      rcases hin n hn hk with h | h
      · obtain ⟨d, hd, rfl, _⟩ := hx.par _ h u hu
        exact ha d (.inl hd)
      · obtain ⟨d, hd, rfl, _⟩ := hy.par _ h u hu
        exact ha d (.inr hd)
    obtain ⟨m, hm, rfl⟩ := List.mem_map.1 hup
    have h2 := hb m hm n hn hu hk
    exact ⟨(m.path, f m), (hmem _).2 ⟨m, hm, rfl, by rw [h2]; decide⟩, rfl, h2⟩
section
variable (policy : Int) (L : List MkE) {xs ys : List NE}
theorem end_path : (endN policy L xs ys).1.map NP.path = pathsS (L.map Prod.fst ++ xs.map Prod.fst ++ ys.map Prod.fst) := by
  unfold endN
  rw [run_path, begin_path]
theorem end_good (hx : TI xs) (hy : TI ys) : ∀ m ∈ (endN policy L xs ys).1, badN (endN policy L xs ys).1 m = false := fun m hm => by
  obtain ⟨j, hj, rfl⟩ := List.getElem_of_mem hm
  unfold endN at hj ⊢
  refine run_good hx hy (begin_sh policy L xs ys) _ j ?_ _ (List.getElem?_eq_getElem hj)
  rw [run_len] at hj
  exact hj
theorem end_sh : ∀ n ∈ (endN policy L xs ys).1, ShN policy xs ys n := run_sh (begin_sh policy L xs ys) _
theorem end_all : ∀ e, e ∈ xs ∨ e ∈ ys → e.1 ∈ (endN policy L xs ys).1.map NP.path := fun e he => by
  rw [end_path, pathsS_mem]
  rcases he with h | h
  · exact List.mem_append_left _ (List.mem_append_right _ (List.mem_map.2 ⟨e, h, rfl⟩))
  · exact List.mem_append_right _ (List.mem_map.2 ⟨e, h, rfl⟩)
theorem left_ti (hx : TI xs) (hy : TI ys) : TI (leftN (endN policy L xs ys).1) :=
  side_ti hx hy NP.left (fun n hn => (end_sh policy L n hn).1.1) (by rw [end_path]; exact pathsS_rise _) (end_all policy L) (fun m hm n hn hu hk => by
    rcases Classical.em (m.left.kind = 2) with h | h
    · exact h
    · have := (bad_iff _ _).2 ⟨n, hn, hu, .inl ⟨h, hk⟩⟩
      rw [end_good policy L hx hy m hm] at this; cases this)
theorem right_ti (hx : TI xs) (hy : TI ys) : TI (rightN (endN policy L xs ys).1) :=
  side_ti hx hy NP.right (fun n hn => (end_sh policy L n hn).1.2) (by rw [end_path]; exact pathsS_rise _) (end_all policy L) (fun m hm n hn hu hk => by
    rcases Classical.em (m.right.kind = 2) with h | h
    · exact h
    · have := (bad_iff _ _).2 ⟨n, hn, hu, .inr ⟨h, hk⟩⟩
      rw [end_good policy L hx hy m hm] at this; cases this)
end
end Sw
/- Maps from keys of any type that has a law: which value lies at which key. Over any program. (XMapI for keys that are numbers.) -/
set_option linter.unusedVariables false
set_option linter.unusedSimpArgs false
namespace Sw
open Go Go.RowKit
open Go.Maps (Keyed)
/-- a value that is read as itself -/
def asItV (v : Value) : Option (DataW Value × List MemPlace) := some (.held v, [])
def lkV (u : Option Value) (z : DataW Value) : DataW Value := match u with | some v => .held v | none => z
/-- keys of Lean's own: their values, and how they read -/
structure KeyV {α : Type} (P : Program) (k : TypeId) (enc : α → Value) (lit : α → Lit) (ok : α → Prop) : Prop where
  law : Keyed P k
  key : ∀ x, ok x → keyOf P k (enc x) = some (lit x)
  inj : ∀ x y, ok x → ok y → lit x = lit y → x = y
/-- block b is a map of at most n entries, at each key x it has f x -/
def MapV {α : Type} (w : World) (P : Program) (k : TypeId) (lit : α → Lit) (ok : α → Prop) (b n : Nat) (f : α → Option Value) : Prop :=
  ∃ D : DataW Value, w.ownsMap P k asItV b n D ∧ ∀ x, ok x → ∀ z, D.atKey (lit x) z = lkV (f x) z
open Classical in
noncomputable def updV {α : Type} (f : α → Option Value) (x : α) (v : Value) : α → Option Value := fun y => if y = x then some v else f y
section
variable {α : Type} {P : Program} {k : TypeId} {enc : α → Value} {lit : α → Lit} {ok : α → Prop} {w w' : World} {b n : Nat} {f : α → Option Value}
theorem MapV.lt (h : MapV w P k lit ok b n f) : b < w.heap.size := by obtain ⟨D, h1, _⟩ := h; exact h1.lt
theorem MapV.kept {row : Option Nat} (h : MapV w P k lit ok b n f) (hg : w.grownBy w' row) (hne : some b ≠ row) : MapV w' P k lit ok b n f := by
  obtain ⟨D, h1, h2⟩ := h
  exact ⟨D, h1.kept hg hne, h2⟩
theorem MapV.same (h : MapV w P k lit ok b n f) (hb : w'.heap[b]? = w.heap[b]?) : MapV w' P k lit ok b n f := by
  obtain ⟨D, ⟨es, clock, h0, h1, h2, h3⟩, h4⟩ := h
  exact ⟨D, ⟨es, clock, hb.trans h0, h1, h2, h3⟩, h4⟩
theorem MapV.below {B : Nat} (h : MapV w P k lit ok b n f) (hb : Below B w w') (hB : b < B) : MapV w' P k lit ok b n f := h.same (hb.block b hB)
theorem MapV.drew (h : MapV w P k lit ok b n f) : MapV w.drew P k lit ok b n f := h.same rfl
theorem MapV.made (w : World) (P : Program) (k : TypeId) (lit : α → Lit) (ok : α → Prop) : MapV (w.alloc (.map #[] 0)) P k lit ok w.heap.size 0 (fun _ => none) :=
  ⟨.map [], World.ownsMap_made w P k asItV, fun x _ z => rfl⟩
theorem MapV.mono (h : MapV w P k lit ok b n f) {m : Nat} (hm : n ≤ m) : MapV w P k lit ok b m f := by
  obtain ⟨D, h1, h2⟩ := h
  exact ⟨D, h1.mono hm, h2⟩
section
variable {t e : TypeId} (hK : KeyV P k enc lit ok) (ht : P.underlying t = some (.map k e)) {z : Value}
include hK ht
theorem MapV.look (h : MapV w P k lit ok b n f) (hz : (zeroValue e).run P w = .ok z w) {x : α} (hx : ok x) : (Instr.lookup t (.map (some b)) (enc x) false).run P w = .ok ((f x).getD z) w := by
  obtain ⟨D, h1, h2⟩ := h
  obtain ⟨v, ps, hr, hv⟩ := h1.lookup hK.law ht hz (zd := .held z) (zp := []) rfl (hK.key x hx)
  rw [h2 x hx] at hv
  rw [hr]
  unfold asItV lkV at hv
  cases hf : f x with
  | none => rw [hf] at hv; simp at hv; simp [hv]
  | some u => rw [hf] at hv; simp at hv; simp [hv]
theorem MapV.store (h : MapV w P k lit ok b n f) (hn : n < maxLen) {x : α} (hx : ok x) (v : Value) :
    ∃ w', (Instr.mapUpdate t (.map (some b)) (enc x) v).run P w = .ok () w' ∧ MapV w' P k lit ok b (n + 1) (updV f x v) ∧ w.grownBy w' (some b) := by
  obtain ⟨D, h1, h2⟩ := h
  obtain ⟨w', hr, h3, h4⟩ := h1.update hK.law ht hn (hK.key x hx) (d := .held v) (ps := []) (val := v) rfl
  refine ⟨w', hr, ⟨_, h3, fun y hy z => ?_⟩, h4⟩
  unfold lkV updV
  by_cases hyx : y = x
  · subst hyx
    rw [Maps.atKey_put_same h1.isMap (hK.law.key (hK.key y hy))]
    simp
  · rw [Maps.atKey_put_other (fun h => hyx (hK.inj y x hy hx h)), h2 y hy z, if_neg hyx]
    rfl
end
section
variable {ops : Array Oper} {rest : List Oper} {o : Oper} {a : Act} {Q : Exit → Act → World → Prop}
theorem wpList_storeV (hg : o.guard = none) (m x v : Operand) (t : TypeId) (hop : o.op = Op.mapUpdate t m x v) (e : TypeId) (hK : KeyV P k enc lit ok) (ht : P.underlying t = some (.map k e))
    (b n : Nat) (f : α → Option Value) (hm : a.eval m = .map (some b)) (h : MapV w P k lit ok b n f) (hn : n < maxLen) (i : α) (hx : a.eval x = enc i) (hi : ok i) (u : Value) (hv : a.eval v = u)
    (hC : ∀ w', MapV w' P k lit ok b (n + 1) (updV f i u) → w.grownBy w' (some b) → wpList P ops Q rest (a.put o.dst undef) w') : wpList P ops Q (o :: rest) a w := by
  refine wpList_plain hg fun K' hK' => ?_
  obtain ⟨w', hrun, r1, r2⟩ := h.store hK ht hn hi u
  unfold Oper.wp
  simp [execOp, hop, hm, hx, hv, hrun, Result.andThen]
  exact hK' _ _ (hC w' r1 r2)
end
end
end Sw
/- Maps keyed by texts; more laws on maps: 'v, ok := m[k]', 'delete(m, k)'. Over any program. -/
set_option linter.unusedVariables false
set_option linter.unusedSimpArgs false
namespace Sw
open Go Go.RowKit
open Go.Maps (Keyed)
def litT (s : ByteArray) : Lit := .string s.data.toList
def okT (s : ByteArray) : Prop := s.size ≤ maxLen
theorem keyStr {P : Program} {k : TypeId} (hk : P.underlying k = some .string) : KeyV P k (fun s : ByteArray => Value.string s) litT okT :=
  ⟨Maps.string_keyed hk, fun s hs => by unfold keyOf litT; unfold okT at hs; rw [hk]; simp [mapKey, hk]; exact hs, fun x y _ _ h => by
    unfold litT at h
    injection h with h
    obtain ⟨⟨x⟩⟩ := x
    obtain ⟨⟨y⟩⟩ := y
    simp at h
    rw [h]⟩
open Classical in
noncomputable def delV {α : Type} (f : α → Option Value) (x : α) : α → Option Value := fun y => if y = x then none else f y
section
variable {α : Type} {P : Program} {k : TypeId} {enc : α → Value} {lit : α → Lit} {ok : α → Prop} {w w' : World} {b n : Nat} {f : α → Option Value}
theorem MapV.congr (h : MapV w P k lit ok b n f) {g : α → Option Value} (e : ∀ x, ok x → g x = f x) : MapV w P k lit ok b n g := by
  obtain ⟨D, h1, h2⟩ := h
  exact ⟨D, h1, fun x hx z => by rw [h2 x hx z]; unfold lkV; rw [e x hx]⟩
section
variable {t e : TypeId} (hK : KeyV P k enc lit ok) (ht : P.underlying t = some (.map k e)) {z : Value}
include hK ht
theorem MapV.look_ok (h : MapV w P k lit ok b n f) (hz : (zeroValue e).run P w = .ok z w) {x : α} (hx : ok x) : (Instr.lookup t (.map (some b)) (enc x) true).run P w = .ok (.tuple #[(f x).getD z, .bool (f x).isSome]) w := by
  obtain ⟨D, h1, h2⟩ := h
  obtain ⟨v, ps, hr, hv⟩ := h1.look_ok hK.law ht hz (zd := .held z) (zp := []) rfl (hK.key x hx)
  have h3 := h2 x hx
  rw [h3 (.held z)] at hv
  rw [hr]
  unfold asItV lkV at hv
  unfold lkV at h3
  cases hf : f x with
  | none =>
    rw [hf] at hv h3
    rw [Maps.has_false_of_atKey h3]
    simp at hv
    simp [hv]
  | some u =>
    rw [hf] at hv h3
    rw [Maps.has_true_of_atKey h3]
    simp at hv
    simp [hv]
theorem MapV.drop (h : MapV w P k lit ok b n f) {x : α} (hx : ok x) (ty : TypeId) :
    ∃ w', (Builtin.delete_ #[t, k] ty #[.map (some b), enc x]).run P w = .ok (.tuple #[]) w' ∧ MapV w' P k lit ok b n (delV f x) ∧ w.grownBy w' (some b) := by
  obtain ⟨D, h1, h2⟩ := h
  obtain ⟨w', hr, h3, h4⟩ := h1.drop hK.law ht (hK.key x hx) ty
  refine ⟨w', hr, ⟨_, h3, fun y hy z => ?_⟩, h4.grown⟩
  unfold lkV delV
  by_cases hyx : y = x
  · subst hyx
    rw [if_pos rfl]
    exact Maps.atKey_del_same z
  · rw [if_neg hyx, Maps.atKey_del_other (fun h => hyx (hK.inj y x hy hx h)), h2 y hy z]
    rfl
end
section
variable {ops : Array Oper} {rest : List Oper} {o : Oper} {a : Act} {Q : Exit → Act → World → Prop}
theorem wpList_lookV_ok (hg : o.guard = none) (m x : Operand) (t : TypeId) (hop : o.op = Op.lookup t m x true) (e : TypeId) (hK : KeyV P k enc lit ok) (ht : P.underlying t = some (.map k e)) {z : Value} (hz : (zeroValue e).run P w = .ok z w)
    (b n : Nat) (f : α → Option Value) (hm : a.eval m = .map (some b)) (h : MapV w P k lit ok b n f) (i : α) (hx : a.eval x = enc i) (hi : ok i)
    (hC : wpList P ops Q rest (a.put o.dst (.tuple #[(f i).getD z, .bool (f i).isSome])) w) : wpList P ops Q (o :: rest) a w := by
  refine wpList_plain hg fun K' hK' => ?_
  have hrun := h.look_ok hK ht hz hi
  unfold Oper.wp
  simp [execOp, hop, hm, hx, hrun, Result.andThen]
  exact hK' _ _ hC
theorem wpList_dropV (hg : o.guard = none) (m x : Operand) (t : TypeId) (hop : o.op = Op.call { callee := Callee.builtin Builtin.delete, args := #[m, x], argTypes := #[t, k] }) (e : TypeId) (hK : KeyV P k enc lit ok) (ht : P.underlying t = some (.map k e))
    (b n : Nat) (f : α → Option Value) (hm : a.eval m = .map (some b)) (h : MapV w P k lit ok b n f) (i : α) (hx : a.eval x = enc i) (hi : ok i)
    (hC : ∀ w', MapV w' P k lit ok b n (delV f i) → w.grownBy w' (some b) → wpList P ops Q rest (a.put o.dst (.tuple #[])) w') : wpList P ops Q (o :: rest) a w := by
  refine wpList_plain hg fun K' hK' => ?_
  obtain ⟨w', hrun, r1, r2⟩ := h.drop hK ht hi o.type
  unfold Oper.wp
  simp [execOp, hop, resolve, invoke, builtin, hm, hx, hrun, Result.andThen]
  exact hK' _ _ (hC w' r1 r2)
end
end
end Sw
/- Regions, plainly: what the maps of the state have; a region turned path by path. -/
set_option linter.unusedVariables false
set_option linter.unusedSimpArgs false
namespace Sw
open Go Go.Proofs.YtnpehjgnplaabaaGreatDoor
def fN (l : List NP) (q : ByteArray) : Option NP := l.find? fun n => decide (n.path = q)
/-- what the map of one side has -/
def lkN (f : NP → Nd) (l : List NP) : ByteArray → Option Value := fun q => (fN l q).map fun n => .agg (f n).c
/-- what the map of the clashes has -/
def lkC (l : List NP) : ByteArray → Option Value := fun q => (fN l q).bind fun n => if n.cls = 0 then none else some (.int .i64 n.cls)
theorem fN_none {l : List NP} {q : ByteArray} (h : ¬ q ∈ l.map NP.path) : fN l q = none := by
  unfold fN
  exact List.find?_eq_none.2 (fun n hn => by simp only [decide_eq_true_eq]; exact fun e => h (List.mem_map.2 ⟨n, hn, e⟩))
theorem fN_some {l : List NP} {q : ByteArray} (h : q ∈ l.map NP.path) : ∃ n ∈ l, fN l q = some n ∧ n.path = q := by
  cases hf : fN l q with
  | none =>
    obtain ⟨n, hn, e⟩ := List.mem_map.1 h
    have := List.find?_eq_none.1 hf n hn
    simp [e] at this
  | some n => exact ⟨n, List.mem_of_find?_eq_some hf, rfl, by have := List.find?_some hf; simpa using this⟩
theorem fN_path {l : List NP} {q : ByteArray} {n : NP} (h : fN l q = some n) : n ∈ l ∧ n.path = q := ⟨List.mem_of_find?_eq_some h, by have := List.find?_some h; simpa using this⟩
theorem fN_append {l : List NP} {n : NP} (h : ¬ n.path ∈ l.map NP.path) (q : ByteArray) : fN (l ++ [n]) q = if q = n.path then some n else fN l q := by
  by_cases e : q = n.path
  · subst e
    rw [if_pos rfl]
    unfold fN
    rw [List.find?_append, show l.find? (fun m => decide (m.path = n.path)) = none from fN_none h]
    simp
  · rw [if_neg e]
    unfold fN
    rw [List.find?_append]
    have : [n].find? (fun m => decide (m.path = q)) = none := by simp [Ne.symm e]
    rw [this, Option.or_none]
theorem fN_map (g : NP → NP) (hg : ∀ n, (g n).path = n.path) (l : List NP) (q : ByteArray) : fN (l.map g) q = (fN l q).map g := by
  unfold fN
  rw [List.find?_map]
  have e : ((fun n : NP => decide (n.path = q)) ∘ g) = fun n : NP => decide (n.path = q) := by funext n; simp [hg]
  rw [e]
theorem lkN_append {f : NP → Nd} {l : List NP} {n : NP} (h : ¬ n.path ∈ l.map NP.path) : lkN f (l ++ [n]) = updV (lkN f l) n.path (.agg (f n).c) := by
  funext q
  unfold lkN updV
  rw [fN_append h]
  by_cases e : q = n.path
  · rw [if_pos e, if_pos e]; rfl
  · rw [if_neg e, if_neg e]
theorem lkC_append {l : List NP} {n : NP} (h : ¬ n.path ∈ l.map NP.path) : lkC (l ++ [n]) = if n.cls = 0 then lkC l else updV (lkC l) n.path (.int .i64 n.cls) := by
  funext q
  unfold lkC
  rw [fN_append h]
  by_cases e : q = n.path
  · subst e
    rw [if_pos rfl]
    split
    · rename_i h0
      simp [h0, fN_none h]
    · rename_i h0
      simp [h0, updV]
  · rw [if_neg e]
    split
    · rfl
    · simp [updV, e]
/-- a path's nodes are set -/
def setN (q : ByteArray) (m : NP) (l : List NP) : List NP := l.map fun n => if n.path = q then m else n
theorem setN_get {q : ByteArray} {m : NP} (hm : m.path = q) (l : List NP) (hq : q ∈ l.map NP.path) (r : ByteArray) : fN (setN q m l) r = if r = q then some m else fN l r := by
  unfold setN
  rw [fN_map _ (fun n => by split <;> simp_all)]
  by_cases e : r = q
  · subst e
    obtain ⟨n, _, hn, hp⟩ := fN_some hq
    rw [hn, if_pos rfl]
    simp [hp]
  · rw [if_neg e]
    cases hf : fN l r with
    | none => rfl
    | some n =>
      have := (fN_path hf).2
      simp [this, e]
theorem lkN_set {f : NP → Nd} {q : ByteArray} {m : NP} (hm : m.path = q) (l : List NP) (hq : q ∈ l.map NP.path) : lkN f (setN q m l) = updV (lkN f l) q (.agg (f m).c) := by
  funext r
  unfold lkN updV
  rw [setN_get hm l hq]
  by_cases e : r = q
  · rw [if_pos e, if_pos e]; rfl
  · rw [if_neg e, if_neg e]
theorem lkC_set {q : ByteArray} {m : NP} (hm : m.path = q) (h0 : m.cls = 0) (l : List NP) (hq : q ∈ l.map NP.path) : lkC (setN q m l) = delV (lkC l) q := by
  funext r
  unfold lkC delV
  rw [setN_get hm l hq]
  by_cases e : r = q
  · rw [if_pos e, if_pos e]; simp [h0]
  · rw [if_neg e, if_neg e]
/-- the clash of a path is set -/
def clsN (q : ByteArray) (c : Int) (l : List NP) : List NP := l.map fun n => if n.path = q then { n with cls := c } else n
theorem clsN_get {q : ByteArray} {c : Int} (l : List NP) (r : ByteArray) : fN (clsN q c l) r = if r = q then (fN l r).map (fun n => { n with cls := c }) else fN l r := by
  unfold clsN
  rw [fN_map _ (fun n => by split <;> rfl)]
  cases hf : fN l r with
  | none => simp
  | some n =>
    have := (fN_path hf).2
    by_cases e : r = q
    · simp [this, e]
    · simp [this, e]
theorem lkN_cls {f : NP → Nd} (hf : ∀ (n : NP) (c : Int), f { n with cls := c } = f n) {q : ByteArray} {c : Int} (l : List NP) : lkN f (clsN q c l) = lkN f l := by
  funext r
  unfold lkN
  rw [clsN_get]
  split
  · cases fN l r with
    | none => rfl
    | some n => simp [hf]
  · rfl
theorem lkC_cls {q : ByteArray} {c : Int} (hc : ¬ c = 0) (l : List NP) (hq : q ∈ l.map NP.path) : lkC (clsN q c l) = updV (lkC l) q (.int .i64 c) := by
  funext r
  unfold lkC updV
  rw [clsN_get]
  by_cases e : r = q
  · subst e
    obtain ⟨n, _, hn, _⟩ := fN_some hq
    rw [if_pos rfl, if_pos rfl, hn]
    simp [hc]
  · rw [if_neg e, if_neg e]
/-- behind some of a region's paths -/
def midN (xs ys : List NE) (side : Int) (l : List NP) (Q : List ByteArray) : List NP := l.map fun n => if inS Q n.path = true then chosenN xs ys side n.path 0 else n
theorem midN_nil (xs ys : List NE) (side : Int) (l : List NP) : midN xs ys side l [] = l := by
  unfold midN
  exact (List.map_congr_left (fun n _ => by rw [if_neg (by rw [inS_iff]; simp)]; rfl)).trans (List.map_id l)
theorem midN_path (xs ys : List NE) (side : Int) (l : List NP) (Q : List ByteArray) : (midN xs ys side l Q).map NP.path = l.map NP.path := by
  unfold midN
  rw [List.map_map]
  refine List.map_congr_left fun n _ => ?_
  simp only [Function.comp]
  split <;> rfl
theorem midN_snoc (xs ys : List NE) (side : Int) (l : List NP) (Q : List ByteArray) (q : ByteArray) : midN xs ys side l (Q ++ [q]) = setN q (chosenN xs ys side q 0) (midN xs ys side l Q) := by
  unfold midN setN
  rw [List.map_map]
  refine List.map_congr_left fun n _ => ?_
  simp only [Function.comp]
  have hp : (if inS Q n.path = true then chosenN xs ys side n.path 0 else n).path = n.path := by split <;> rfl
  rw [hp]
  by_cases e : n.path = q
  · rw [if_pos e, if_pos (by rw [inS_iff, e]; simp), e]
  · rw [if_neg e]
    have : inS (Q ++ [q]) n.path = inS Q n.path := by
      cases h : inS Q n.path with
      | true => rw [inS_iff] at h ⊢; exact List.mem_append_left _ h
      | false =>
        cases h2 : inS (Q ++ [q]) n.path with
        | false => rfl
        | true =>
          rw [inS_iff] at h2
          rcases List.mem_append.1 h2 with h3 | h3
          · rw [← inS_iff, h] at h3; cases h3
          · simp at h3; exact absurd h3 e
    rw [this]
/-- the paths at one, and under it -/
def insN (l : List NP) (p : ByteArray) : List ByteArray := (l.map NP.path).filter (inQ p)
theorem turn_mid (policy : Int) (xs ys : List NE) (l : List NP) (p : ByteArray) : turnN policy xs ys l p = clsN p 4 (midN xs ys (sideR policy xs ys p) l (insN l p)) := by
  unfold turnN clsN midN
  rw [List.map_map]
  refine List.map_congr_left fun n hn => ?_
  simp only [Function.comp]
  have hi : inS (insN l p) n.path = inQ p n.path := by
    cases h : inQ p n.path with
    | true => rw [inS_iff]; exact List.mem_filter.2 ⟨List.mem_map.2 ⟨n, hn, rfl⟩, h⟩
    | false =>
      cases h2 : inS (insN l p) n.path with
      | false => rfl
      | true =>
        rw [inS_iff] at h2
        have := (List.mem_filter.1 h2).2
        rw [h] at this; cases this
  rw [hi]
  by_cases h : inQ p n.path = true
  · rw [if_pos h, if_pos h]
    by_cases e : n.path = p
    · rw [if_pos e, if_pos (by exact e)]; rfl
    · rw [if_neg e, if_neg (by exact e)]
  · rw [if_neg h, if_neg h]
    have : ¬ n.path = p := fun e => h (by rw [e]; exact inQ_self p)
    rw [if_neg this]
end Sw
