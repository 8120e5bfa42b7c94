/- Several texts, joined for the limit of sixty files; each one opens with its own comment. -/

/- A stable sort, plainly: rows of things with the place that each came from. -/
set_option linter.unusedVariables false
set_option linter.unusedSimpArgs false
namespace Sw
section
variable {α : Type}
/-- a comparison that is an order but for ties -/
structure Cmp (c : α → α → Int) : Prop where
  irr : ∀ x, ¬ c x x < 0
  asym : ∀ x y, c x y < 0 → ¬ c y x < 0
  trans : ∀ x y z, ¬ c y x < 0 → ¬ c z y < 0 → ¬ c z x < 0
/-- ahead, ties by the place -/
def Ah (c : α → α → Int) (p q : α × Nat) : Prop := c p.1 q.1 < 0 ∨ (¬ c q.1 p.1 < 0 ∧ p.2 < q.2)
theorem Ah.trans {c : α → α → Int} (C : Cmp c) {p q r : α × Nat} (h : Ah c p q) (k : Ah c q r) : Ah c p r := by
  have tr : ∀ x y z, c x y < 0 → ¬ c z y < 0 → c x z < 0 := fun x y z h1 h2 => by
    by_cases h3 : c x z < 0
    · exact h3
    · exact absurd h1 (C.trans y z x h2 h3)
  have tr2 : ∀ x y z, ¬ c y x < 0 → c y z < 0 → c x z < 0 := fun x y z h1 h2 => by
    by_cases h3 : c x z < 0
    · exact h3
    · exact absurd h2 (C.trans z x y h3 h1)
  rcases h with h | ⟨h1, h2⟩
  · rcases k with k | ⟨k1, k2⟩
    · exact .inl (tr _ _ _ h (C.asym _ _ k))
    · exact .inl (tr _ _ _ h k1)
  · rcases k with k | ⟨k1, k2⟩
    · exact .inl (tr2 _ _ _ h1 k)
    · by_cases h3 : c p.1 r.1 < 0
      · exact .inl h3
      · exact .inr ⟨C.trans _ _ _ h1 k1, Nat.lt_trans h2 k2⟩
theorem Ah.irr {c : α → α → Int} (C : Cmp c) (p : α × Nat) : ¬ Ah c p p := by
  rintro (h | ⟨_, h⟩)
  · exact C.irr _ h
  · exact Nat.lt_irrefl _ h
theorem Ah.total {c : α → α → Int} (C : Cmp c) {p q : α × Nat} (h : p.2 ≠ q.2) : Ah c p q ∨ Ah c q p := by
  by_cases h1 : c p.1 q.1 < 0
  · exact .inl (.inl h1)
  · by_cases h2 : c q.1 p.1 < 0
    · exact .inr (.inl h2)
    · rcases Nat.lt_or_gt_of_ne h with h3 | h3
      · exact .inl (.inr ⟨h2, h3⟩)
      · exact .inr (.inr ⟨h1, h3⟩)
/-- q came behind p: q is ahead of p just if it compares less -/
theorem Ah.of_right {c : α → α → Int} (C : Cmp c) {p q : α × Nat} (h : p.2 < q.2) : Ah c q p ↔ c q.1 p.1 < 0 := by
  constructor
  · rintro (h1 | ⟨_, h1⟩)
    · exact h1
    · omega
  · exact fun h1 => .inl h1
theorem Ah.of_left {c : α → α → Int} (C : Cmp c) {p q : α × Nat} (h : p.2 < q.2) : Ah c p q ↔ ¬ c q.1 p.1 < 0 := by
  constructor
  · rintro (h1 | ⟨h1, _⟩)
    · exact C.asym _ _ h1
    · exact h1
  · intro h1
    by_cases h2 : c p.1 q.1 < 0
    · exact .inl h2
    · exact .inr ⟨h1, h⟩
def UpS (c : α → α → Int) (l : List (α × Nat)) : Prop := l.Pairwise (Ah c)
/-- all of l came ahead of all of m -/
def Came (l m : List (α × Nat)) : Prop := ∀ p ∈ l, ∀ q ∈ m, p.2 < q.2
theorem UpS.get {c : α → α → Int} {l : List (α × Nat)} (h : UpS c l) {i j : Nat} (hij : i < j) (hj : j < l.length) : Ah c (l[i]'(by omega)) l[j] := List.pairwise_iff_getElem.1 h i j (by omega) hj hij
/-- two halves of two rows, cut where they cross -/
theorem cut_up {c : α → α → Int} (C : Cmp c) {L R : List (α × Nat)} (hL : UpS c L) (hR : UpS c R) (i j : Nat) (hi : i ≤ L.length) (hj : j ≤ R.length)
    (h1 : ∀ (h : 0 < i) (k : j < R.length), Ah c (L[i - 1]'(by omega)) R[j]) (h2 : ∀ (h : i < L.length) (k : 0 < j), Ah c (R[j - 1]'(by omega)) L[i]) :
    (∀ p ∈ L.take i ++ R.take j, ∀ q ∈ L.drop i ++ R.drop j, Ah c p q) := by
  have le : ∀ (l : List (α × Nat)), UpS c l → ∀ (a b : Nat) (ha : a ≤ b) (hb : b < l.length), a = b ∨ Ah c (l[a]'(by omega)) l[b] := fun l hl a b ha hb => by
    rcases Nat.lt_or_eq_of_le ha with h | h
    · exact .inr (hl.get h hb)
    · exact .inl h
  intro p hp q hq
  rcases List.mem_append.1 hp with hp | hp
  · obtain ⟨a, ha, rfl⟩ := List.getElem_of_mem hp
    rw [List.length_take] at ha
    rw [List.getElem_take]
    rcases List.mem_append.1 hq with hq | hq
    · obtain ⟨b, hb, rfl⟩ := List.getElem_of_mem hq
      rw [List.length_drop] at hb
      rw [List.getElem_drop]
      exact hL.get (by omega) (by omega)
    · obtain ⟨b, hb, rfl⟩ := List.getElem_of_mem hq
      rw [List.length_drop] at hb
      rw [List.getElem_drop]
      have hx := h1 (by omega) (by omega)
      have hy : Ah c (L[a]'(by omega)) (R[j]'(by omega)) := by
        rcases le L hL a (i - 1) (by omega) (by omega) with e | e
        · have : L[a]'(by omega) = L[i - 1]'(by omega) := by congr 1
          rw [this]; exact hx
        · exact e.trans C hx
      rcases le R hR j (j + b) (by omega) (by omega) with e | e
      · have : R[j]'(by omega) = R[j + b]'(by omega) := by congr 1
        rw [← this]; exact hy
      · exact hy.trans C e
  · obtain ⟨a, ha, rfl⟩ := List.getElem_of_mem hp
    rw [List.length_take] at ha
    rw [List.getElem_take]
    rcases List.mem_append.1 hq with hq | hq
    · obtain ⟨b, hb, rfl⟩ := List.getElem_of_mem hq
      rw [List.length_drop] at hb
      rw [List.getElem_drop]
      have hx := h2 (by omega) (by omega)
      have hy : Ah c (R[a]'(by omega)) (L[i]'(by omega)) := by
        rcases le R hR a (j - 1) (by omega) (by omega) with e | e
        · have : R[a]'(by omega) = R[j - 1]'(by omega) := by congr 1
          rw [this]; exact hx
        · exact e.trans C hx
      rcases le L hL i (i + b) (by omega) (by omega) with e | e
      · have : L[i]'(by omega) = L[i + b]'(by omega) := by congr 1
        rw [← this]; exact hy
      · exact hy.trans C e
    · obtain ⟨b, hb, rfl⟩ := List.getElem_of_mem hq
      rw [List.length_drop] at hb
      rw [List.getElem_drop]
      exact hR.get (by omega) (by omega)
theorem UpS.app {c : α → α → Int} {l m : List (α × Nat)} (hl : UpS c l) (hm : UpS c m) (h : ∀ p ∈ l, ∀ q ∈ m, Ah c p q) : UpS c (l ++ m) := List.pairwise_append.2 ⟨hl, hm, h⟩
theorem UpS.left {c : α → α → Int} {l m : List (α × Nat)} (h : UpS c (l ++ m)) : UpS c l := (List.pairwise_append.1 h).1
theorem UpS.right {c : α → α → Int} {l m : List (α × Nat)} (h : UpS c (l ++ m)) : UpS c m := (List.pairwise_append.1 h).2.1
/-- of one set of things there is one row that rises -/
theorem UpS.one {c : α → α → Int} (C : Cmp c) : ∀ {l m : List (α × Nat)}, UpS c l → UpS c m → l.Perm m → l = m
  | [], m, _, _, h => by rw [List.nil_perm.1 h]
  | x :: l, [], _, _, h => by have := h.length_eq; simp at this
  | x :: l, y :: m, hl, hm, h => by
    obtain ⟨h1, h2⟩ := List.pairwise_cons.1 hl
    obtain ⟨k1, k2⟩ := List.pairwise_cons.1 hm
    have hxy : x = y := by
      rcases List.mem_cons.1 (h.mem_iff.1 (List.mem_cons_self (a := x))) with e | e
      · exact e
      · rcases List.mem_cons.1 (h.mem_iff.2 (List.mem_cons_self (a := y))) with e' | e'
        · exact e'.symm
        · exact absurd ((k1 x e).trans C (h1 y e')) (Ah.irr C y)
    subst hxy
    rw [UpS.one C h2 k2 ((List.perm_cons x).1 h)]
theorem UpS.ins {c : α → α → Int} {S1 S2 : List (α × Nat)} {x : α × Nat} (h : UpS c (S1 ++ S2)) (h1 : ∀ p ∈ S1, Ah c p x) (h2 : ∀ q ∈ S2, Ah c x q) : UpS c (S1 ++ x :: S2) :=
  List.pairwise_append.2 ⟨h.left, List.pairwise_cons.2 ⟨h2, h.right⟩, fun p hp q hq => by
    rcases List.mem_cons.1 hq with rfl | hq
    · exact h1 p hp
    · exact (List.pairwise_append.1 h).2.2 p hp q hq⟩
theorem UpS.lead {c : α → α → Int} (C : Cmp c) {S0 : List (α × Nat)} {x y : α × Nat} (h : UpS c (S0 ++ [y])) (hy : Ah c y x) : ∀ p ∈ S0 ++ [y], Ah c p x := fun p hp => by
  rcases List.mem_append.1 hp with hp | hp
  · exact ((List.pairwise_append.1 h).2.2 p hp y (by simp)).trans C hy
  · rw [List.mem_singleton.1 hp]; exact hy
theorem ins_perm {β : Type} (S1 S2 T : List β) (x : β) : (S1 ++ x :: S2 ++ T).Perm ((S1 ++ S2) ++ x :: T) := by
  have h1 : (S1 ++ x :: S2 ++ T).Perm (x :: (S1 ++ S2 ++ T)) := by rw [List.append_assoc, List.cons_append, List.append_assoc]; exact List.perm_middle
  exact h1.trans List.perm_middle.symm
theorem ins_round {c : α → α → Int} {S S1 S2 T X : List (α × Nat)} {x : α × Nat} (hS : S1 ++ S2 = S) (hp : (S ++ x :: T).Perm X) (hu : UpS c S) (hc : ∀ p ∈ S, ∀ q ∈ x :: T, p.2 < q.2) (hr : (x :: T).Pairwise fun p q => p.2 < q.2)
    (h1 : ∀ p ∈ S1, Ah c p x) (h2 : ∀ q ∈ S2, Ah c x q) :
    (S1 ++ x :: S2 ++ T).Perm X ∧ UpS c (S1 ++ x :: S2) ∧ (∀ p ∈ S1 ++ x :: S2, ∀ q ∈ T, p.2 < q.2) ∧ (T.Pairwise fun p q => p.2 < q.2) := by
  subst hS
  refine ⟨(ins_perm S1 S2 T x).trans hp, hu.ins h1 h2, fun p hp' q hq => ?_, (List.pairwise_cons.1 hr).2⟩
  rcases List.mem_append.1 hp' with h | h
  · exact hc p (List.mem_append_left _ h) q (List.mem_cons_of_mem _ hq)
  · rcases List.mem_cons.1 h with rfl | h
    · exact (List.pairwise_cons.1 hr).1 q hq
    · exact hc p (List.mem_append_right _ h) q (List.mem_cons_of_mem _ hq)
theorem UpS.put {c : α → α → Int} (C : Cmp c) {R : List (α × Nat)} {x : α × Nat} (h : UpS c R) (k : Nat) (hkR : k ≤ R.length) (h1 : ∀ z, 0 < k → R[k - 1]? = some z → Ah c z x) (h2 : ∀ z, R[k]? = some z → Ah c x z) : UpS c (R.take k ++ x :: R.drop k) := by
  refine UpS.ins (by rw [List.take_append_drop]; exact h) (fun p hp => ?_) (fun q hq => ?_)
  · obtain ⟨t, ht, rfl⟩ := List.getElem_of_mem hp
    rw [List.length_take] at ht
    rw [List.getElem_take]
    have hk : k - 1 < R.length ∨ R.length ≤ k - 1 := by omega
    rcases Nat.lt_or_ge t (k - 1) with h3 | h3
    · exact (h.get h3 (by omega)).trans C (h1 _ (by omega) (List.getElem?_eq_getElem (by omega)))
    · have e : t = k - 1 := by omega
      exact h1 _ (by omega) (by rw [← e]; exact List.getElem?_eq_getElem (by omega))
  · obtain ⟨t, ht, rfl⟩ := List.getElem_of_mem hq
    rw [List.length_drop] at ht
    rw [List.getElem_drop]
    have hk := h2 _ (List.getElem?_eq_getElem (by omega))
    rcases Nat.eq_zero_or_pos t with rfl | h3
    · exact hk
    · exact hk.trans C (h.get (by omega) (by omega))
theorem put_perm {β : Type} (R : List β) (x : β) (k : Nat) : (R.take k ++ x :: R.drop k).Perm (x :: R) := by
  have := List.perm_middle (a := x) (l₁ := R.take k) (l₂ := R.drop k)
  rwa [List.take_append_drop] at this
end
end Sw

