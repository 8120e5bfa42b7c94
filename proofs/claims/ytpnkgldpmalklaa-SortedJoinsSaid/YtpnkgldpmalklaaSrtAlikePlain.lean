/- Plain laws of SortedAlike: rows that rise are told by their members; what is put in any order stands alike. -/
import Derived.Test.YtpnkgldpmalklaaSrtPlain
set_option linter.unusedVariables false
set_option linter.unusedSimpArgs false
namespace Sw
section
variable {κ ν : Type} {c : κ → κ → Int}
theorem up_ext (hO : Ord3 c) : ∀ (l m : List (κ × ν)), Up c l → Up c m → (∀ x, x ∈ l ↔ x ∈ m) → l = m
  | [], m, _, _, h => by
    cases m with
    | nil => rfl
    | cons e m => exact absurd ((h e).2 (List.mem_cons_self ..)) (by simp)
  | a :: l, [], _, _, h => absurd ((h a).1 (List.mem_cons_self ..)) (by simp)
  | a :: l, b :: m, hl, hm, h => by
    have hab : a = b := by
      have h1 := (h a).1 (List.mem_cons_self ..)
      have h2 := (h b).2 (List.mem_cons_self ..)
      rw [List.mem_cons] at h1 h2
      rcases h1 with h1 | h1
      · exact h1
      · rcases h2 with h2 | h2
        · exact h2.symm
        · have e1 := hm.head a h1
          have e2 := hl.head b h2
          have := hO.neg a.1 b.1
          omega
    subst hab
    congr 1
    refine up_ext hO l m hl.tail hm.tail fun x => ?_
    have hx := h x
    rw [List.mem_cons, List.mem_cons] at hx
    constructor
    · intro hm'
      rcases hx.1 (.inr hm') with e | e
      · subst e
        have := hl.head _ hm'
        have := hO.self x.1
        omega
      · exact e
    · intro hm'
      rcases hx.2 (.inr hm') with e | e
      · subst e
        have := hm.head _ hm'
        have := hO.self x.1
        omega
      · exact e
/-- all of a row, put one behind another -/
def putL (c : κ → κ → Int) (l : List (κ × ν)) : List (κ × ν) := l.foldl (fun m e => putN c e.1 e.2 m) []
theorem putL_snoc (l : List (κ × ν)) (e : κ × ν) : putL c (l ++ [e]) = putN c e.1 e.2 (putL c l) := by
  unfold putL
  rw [List.foldl_append]
  rfl
/-- keys that differ -/
def Unlike (l : List (κ × ν)) : Prop := l.Pairwise fun a b => a.1 ≠ b.1
theorem put_new (hO : Ord3 c) (k : κ) (v : ν) (l : List (κ × ν)) (hu : Up c l) (hk : ∀ x ∈ l, x.1 ≠ k) : (∀ x, x ∈ putN c k v l ↔ x = (k, v) ∨ x ∈ l) ∧ (putN c k v l).length = l.length + 1 := by
  have hin : inN c k l = false := by
    cases h : inN c k l with
    | false => rfl
    | true =>
      exfalso
      have hlt := inN_lt hO h
      rw [inN_at hO hlt, decide_eq_true_eq] at h
      exact hk _ (List.getElem_mem hlt) (hO.zero _ _ h)
  constructor
  · intro x
    rw [put_miss k v l hin]
    have ht : x ∈ l ↔ x ∈ l.take (lbN c k l) ∨ x ∈ l.drop (lbN c k l) := by
      rw [← List.mem_append, List.take_append_drop]
    rw [ht, List.mem_append, List.mem_cons]
    constructor
    · rintro (h | h | h)
      · exact .inr (.inl h)
      · exact .inl h
      · exact .inr (.inr h)
    · rintro (h | h | h)
      · exact .inr (.inl h)
      · exact .inl h
      · exact .inr (.inr h)
  · rw [put_len, hin]; rfl
/-- what is put of unlike keys: it rises, and has these members -/
theorem putL_all (hO : Ord3 c) : ∀ n (l : List (κ × ν)), l.length = n → Unlike l → Up c (putL c l) ∧ (∀ x, x ∈ putL c l ↔ x ∈ l) ∧ (putL c l).length = l.length
  | 0, l, hl, _ => by
    obtain rfl : l = [] := List.length_eq_zero_iff.1 hl
    exact ⟨List.Pairwise.nil, fun x => Iff.rfl, rfl⟩
  | n + 1, l, hl, hu => by
    have hne : l ≠ [] := by intro e; subst e; simp at hl
    obtain ⟨r, e, rfl⟩ : ∃ r e, l = r ++ [e] := ⟨l.dropLast, l.getLast hne, (List.dropLast_concat_getLast hne).symm⟩
    unfold Unlike at hu
    rw [List.pairwise_append] at hu
    obtain ⟨h1, h2, h3⟩ := putL_all hO n r (by simpa using hl) hu.1
    rw [putL_snoc]
    have hk : ∀ x ∈ putL c r, x.1 ≠ e.1 := fun x hx => hu.2.2 x ((h2 x).1 hx) e (List.mem_singleton.2 rfl)
    obtain ⟨h4, h5⟩ := put_new hO e.1 e.2 _ h1 hk
    refine ⟨put_up hO _ _ _ h1, fun x => ?_, ?_⟩
    · rw [h4, h2, List.mem_append, List.mem_singleton]
      exact Or.comm
    · rw [h5, h3]; simp
theorem Unlike.rev {l : List (κ × ν)} (h : Unlike l) : Unlike l.reverse := by
  unfold Unlike at *
  rw [List.pairwise_reverse]
  exact h.imp fun h => Ne.symm h
theorem putL_alike (hO : Ord3 c) {l : List (κ × ν)} (h : Unlike l) : putL c l.reverse = putL c l := by
  obtain ⟨a1, a2, _⟩ := putL_all hO _ l rfl h
  obtain ⟨b1, b2, _⟩ := putL_all hO _ l.reverse rfl h.rev
  refine up_ext hO _ _ b1 a1 fun x => ?_
  rw [a2, b2, List.mem_reverse]
/-- the first of what is left is dropped -/
theorem drop_first (hO : Ord3 c) (l : List (κ × ν)) (j : Nat) (hj : j < l.length) : inN c (l[j]'hj).1 (l.drop j) = true ∧ dropN c (l[j]'hj).1 (l.drop j) = l.drop (j + 1) := by
  have hd : l.drop j = l[j] :: l.drop (j + 1) := List.drop_eq_getElem_cons hj
  have h0 := hO.self (l[j]'hj).1
  rw [hd]
  unfold inN dropN
  rw [if_neg (by omega), if_neg (by omega), if_pos h0, decide_eq_true h0]
  exact ⟨rfl, rfl⟩
/-- a row whose keys differ, found one by one -/
theorem unlike_of {l : List (κ × ν)} (h : ∀ j (hj : j < l.length) k (hk : k < j), (l[k]'(by omega)).1 ≠ (l[j]'hj).1) : Unlike l := by
  unfold Unlike
  rw [List.pairwise_iff_getElem]
  intro i j hi hj hij
  exact h j hj i hij
theorem putL_le : ∀ (l m : List (κ × ν)), (l.foldl (fun m e => putN c e.1 e.2 m) m).length ≤ m.length + l.length
  | [], m => by simp
  | e :: l, m => by
    rw [List.foldl_cons]
    have h1 := putL_le l (putN c e.1 e.2 m)
    have h2 := put_len (c := c) e.1 e.2 m
    have h3 : (putN c e.1 e.2 m).length ≤ m.length + 1 := by rw [h2]; split <;> omega
    simp only [List.length_cons]
    omega
theorem putL_length (l : List (κ × ν)) : (putL c l).length ≤ l.length := by
  have := putL_le (c := c) l []
  unfold putL
  simpa using this
/-- the keys of a row are dropped, one behind another -/
def dropA (c : κ → κ → Int) (pre xs : List (κ × ν)) : List (κ × ν) := pre.foldl (fun m e => dropN c e.1 m) xs
theorem dropA_snoc (pre xs : List (κ × ν)) (x : κ × ν) : dropA c (pre ++ [x]) xs = dropN c x.1 (dropA c pre xs) := by
  unfold dropA
  rw [List.foldl_append]
  rfl
theorem dropA_len : ∀ (pre xs : List (κ × ν)), (dropA c pre xs).length ≤ xs.length
  | [], xs => Nat.le_refl _
  | e :: pre, xs => by
    unfold dropA
    rw [List.foldl_cons]
    exact Nat.le_trans (dropA_len pre _) (dropN_len e.1 xs)
theorem dropA_take (hO : Ord3 c) (xs : List (κ × ν)) : ∀ j, j ≤ xs.length → dropA c (xs.take j) xs = xs.drop j
  | 0, _ => by simp [dropA]
  | j + 1, h => by
    rw [List.take_succ_eq_append_getElem h, dropA_snoc, dropA_take hO xs j (by omega)]
    exact (drop_first hO xs j h).2
theorem dropA_all (hO : Ord3 c) (xs : List (κ × ν)) : dropA c xs xs = [] := by
  have := dropA_take hO xs xs.length (Nat.le_refl _)
  rwa [List.take_length, List.drop_length] at this
/-- what is told is there to be dropped -/
theorem dropA_in (hO : Ord3 c) (xs pre : List (κ × ν)) (x : κ × ν) (h : (pre ++ [x]) <+: xs) : inN c x.1 (dropA c pre xs) = true := by
  obtain ⟨r, rfl⟩ := h
  have hj : pre.length < ((pre ++ [x]) ++ r).length := by simp
  have h1 := dropA_take hO ((pre ++ [x]) ++ r) pre.length (by omega)
  have h2 := (drop_first hO ((pre ++ [x]) ++ r) pre.length hj).1
  have h3 : ((pre ++ [x]) ++ r).take pre.length = pre := by rw [List.append_assoc]; exact List.take_left
  rw [h3] at h1
  rw [h1]
  simpa using h2
end
end Sw
