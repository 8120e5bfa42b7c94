/- Several texts, joined for the limit of sixty files; each one opens with its own comment. -/
import Derived.Test.YtlogdionhgabdaaDoorJoin4
/- Plain laws of rows of entries that rise by their keys: where a key is, what is put, dropped and got. -/
set_option linter.unusedVariables false
set_option linter.unusedSimpArgs false
namespace Sw
/-- an order that tells below 0, 0, or above 0 -/
structure Ord3 {κ : Type} (c : κ → κ → Int) : Prop where
  zero : ∀ a b, c a b = 0 → a = b
  neg : ∀ a b, c b a = -c a b
  trans : ∀ a b d, c a b < 0 → c b d < 0 → c a d < 0
section
variable {κ ν : Type} {c : κ → κ → Int}
theorem Ord3.self (h : Ord3 c) (a : κ) : c a a = 0 := by have := h.neg a a; omega
theorem Ord3.iff (h : Ord3 c) (a b : κ) : c a b = 0 ↔ a = b := ⟨h.zero a b, fun e => by subst e; exact h.self a⟩
/-- entries that rise -/
def Up (c : κ → κ → Int) (l : List (κ × ν)) : Prop := l.Pairwise fun a b => c a.1 b.1 < 0
/-- the place of a key, or where it would stand -/
def lbN (c : κ → κ → Int) (k : κ) : List (κ × ν) → Nat
  | [] => 0
  | e :: l => if c e.1 k < 0 then lbN c k l + 1 else 0
/-- is a key there? -/
def inN (c : κ → κ → Int) (k : κ) : List (κ × ν) → Bool
  | [] => false
  | e :: l => if c e.1 k < 0 then inN c k l else decide (c e.1 k = 0)
def putN (c : κ → κ → Int) (k : κ) (v : ν) : List (κ × ν) → List (κ × ν)
  | [] => [(k, v)]
  | e :: l => if c e.1 k < 0 then e :: putN c k v l else if c e.1 k = 0 then (k, v) :: l else (k, v) :: e :: l
def getN (c : κ → κ → Int) (k : κ) : List (κ × ν) → Option ν
  | [] => none
  | e :: l => if c e.1 k < 0 then getN c k l else if c e.1 k = 0 then some e.2 else none
def dropN (c : κ → κ → Int) (k : κ) : List (κ × ν) → List (κ × ν)
  | [] => []
  | e :: l => if c e.1 k < 0 then e :: dropN c k l else if c e.1 k = 0 then l else e :: l
theorem lbN_le (k : κ) : ∀ l : List (κ × ν), lbN c k l ≤ l.length
  | [] => Nat.le_refl _
  | e :: l => by
    unfold lbN
    split
    · have := lbN_le k l; simp; omega
    · exact Nat.zero_le _
theorem lbN_lt (k : κ) : ∀ (l : List (κ × ν)) (i : Nat) (h : i < l.length), i < lbN c k l → c l[i].1 k < 0
  | [], i, h, _ => absurd h (by simp)
  | e :: l, i, h, hi => by
    unfold lbN at hi
    by_cases hc : c e.1 k < 0
    · rw [if_pos hc] at hi
      cases i with
      | zero => exact hc
      | succ i => exact lbN_lt k l i (by simpa using h) (by omega)
    · rw [if_neg hc] at hi; omega
theorem Up.head {e : κ × ν} {l : List (κ × ν)} (h : Up c (e :: l)) : ∀ x ∈ l, c e.1 x.1 < 0 := (List.pairwise_cons.1 h).1
theorem Up.tail {e : κ × ν} {l : List (κ × ν)} (h : Up c (e :: l)) : Up c l := (List.pairwise_cons.1 h).2
/-- behind one that is not below the key, none is -/
theorem Ord3.up (hO : Ord3 c) {a b k : κ} (hab : c a b < 0) (hb : c b k < 0) : c a k < 0 := hO.trans _ _ _ hab hb
theorem lbN_ge (hO : Ord3 c) (k : κ) : ∀ (l : List (κ × ν)), Up c l → ∀ (i : Nat) (h : i < l.length), lbN c k l ≤ i → 0 ≤ c l[i].1 k
  | [], _, i, h, _ => absurd h (by simp)
  | e :: l, hu, i, h, hi => by
    unfold lbN at hi
    by_cases hc : c e.1 k < 0
    · rw [if_pos hc] at hi
      cases i with
      | zero => omega
      | succ i => exact lbN_ge hO k l hu.tail i (by simpa using h) (by omega)
    · cases i with
      | zero => show 0 ≤ c e.1 k; omega
      | succ i =>
        have hi' : i < l.length := by simpa using h
        show 0 ≤ c l[i].1 k
        refine Int.not_lt.1 fun hl => hc ?_
        exact hO.up (hu.head l[i] (List.getElem_mem hi')) hl
theorem lbN_eq (hO : Ord3 c) (k : κ) (l : List (κ × ν)) (j : Nat) (hj : j ≤ l.length) (h1 : ∀ i (h : i < l.length), i < j → c l[i].1 k < 0) (h2 : ∀ i (h : i < l.length), j ≤ i → 0 ≤ c l[i].1 k) : lbN c k l = j := by
  induction l generalizing j with
  | nil => simp at hj; simp [lbN, hj]
  | cons e l ih =>
    unfold lbN
    cases j with
    | zero =>
      have := h2 0 (by simp) (Nat.le_refl _)
      rw [if_neg (by show ¬ c e.1 k < 0; simp at this; omega)]
    | succ j =>
      have h0 := h1 0 (by simp) (by omega)
      rw [if_pos (by simpa using h0), ih j (by simpa using hj) (fun i h hi => by have := h1 (i + 1) (by simpa using h) (by omega); simpa using this) (fun i h hi => by have := h2 (i + 1) (by simpa using h) (by omega); simpa using this)]
theorem inN_eq (hO : Ord3 c) (k : κ) : ∀ l : List (κ × ν), inN c k l = (if h : lbN c k l < l.length then decide (c (l[lbN c k l]'h).1 k = 0) else false)
  | [] => rfl
  | e :: l => by
    by_cases hc : c e.1 k < 0
    · have ih := inN_eq hO k l
      have hl : lbN c k (e :: l) = lbN c k l + 1 := by rw [lbN, if_pos hc]
      rw [inN, if_pos hc, ih]
      by_cases h : lbN c k l < l.length
      · rw [dif_pos h, dif_pos (by rw [hl]; simpa using h)]
        simp only [hl, List.getElem_cons_succ]
      · rw [dif_neg h, dif_neg (by rw [hl]; simpa using h)]
    · have hl : lbN c k (e :: l) = 0 := by rw [lbN, if_neg hc]
      rw [inN, if_neg hc, dif_pos (by rw [hl]; simp)]
      simp only [hl, List.getElem_cons_zero]
theorem inN_at (hO : Ord3 c) {k : κ} {l : List (κ × ν)} (h : lbN c k l < l.length) : inN c k l = decide (c (l[lbN c k l]'h).1 k = 0) := by rw [inN_eq hO, dif_pos h]
theorem inN_out (hO : Ord3 c) {k : κ} {l : List (κ × ν)} (h : ¬ lbN c k l < l.length) : inN c k l = false := by rw [inN_eq hO, dif_neg h]
theorem inN_lt (hO : Ord3 c) {k : κ} {l : List (κ × ν)} (h : inN c k l = true) : lbN c k l < l.length := by
  by_cases hl : lbN c k l < l.length
  · exact hl
  · rw [inN_out hO hl] at h; cases h
theorem put_hit (k : κ) (v : ν) : ∀ l : List (κ × ν), inN c k l = true → putN c k v l = l.set (lbN c k l) (k, v)
  | [], h => by cases h
  | e :: l, h => by
    unfold inN at h
    unfold putN lbN
    by_cases hc : c e.1 k < 0
    · rw [if_pos hc] at h ⊢
      rw [if_pos hc, List.set_cons_succ, put_hit k v l h]
    · rw [if_neg hc, decide_eq_true_eq] at h
      rw [if_neg hc, if_neg hc, if_pos h, List.set_cons_zero]
theorem put_miss (k : κ) (v : ν) : ∀ l : List (κ × ν), inN c k l = false → putN c k v l = l.take (lbN c k l) ++ (k, v) :: l.drop (lbN c k l)
  | [], _ => rfl
  | e :: l, h => by
    unfold inN at h
    unfold putN lbN
    by_cases hc : c e.1 k < 0
    · rw [if_pos hc] at h ⊢
      rw [if_pos hc, List.take_succ_cons, List.drop_succ_cons, put_miss k v l h, List.cons_append]
    · rw [if_neg hc, decide_eq_false_iff_not] at h
      rw [if_neg hc, if_neg hc, if_neg h, List.take_zero, List.drop_zero, List.nil_append]
theorem drop_hit (k : κ) : ∀ l : List (κ × ν), inN c k l = true → dropN c k l = l.take (lbN c k l) ++ l.drop (lbN c k l + 1)
  | [], h => by cases h
  | e :: l, h => by
    unfold inN at h
    unfold dropN lbN
    by_cases hc : c e.1 k < 0
    · rw [if_pos hc] at h ⊢
      rw [if_pos hc, List.take_succ_cons, List.drop_succ_cons, drop_hit k l h, List.cons_append]
    · rw [if_neg hc, decide_eq_true_eq] at h
      rw [if_neg hc, if_neg hc, if_pos h]
      rfl
theorem drop_miss (k : κ) : ∀ l : List (κ × ν), inN c k l = false → dropN c k l = l
  | [], _ => rfl
  | e :: l, h => by
    unfold inN at h
    unfold dropN
    by_cases hc : c e.1 k < 0
    · rw [if_pos hc] at h ⊢
      rw [drop_miss k l h]
    · rw [if_neg hc, decide_eq_false_iff_not] at h
      rw [if_neg hc, if_neg h]
theorem get_hit (hO : Ord3 c) (k : κ) : ∀ l : List (κ × ν), inN c k l = true → ∃ h : lbN c k l < l.length, getN c k l = some (l[lbN c k l]'h).2
  | [], h => by cases h
  | e :: l, h => by
    unfold inN at h
    by_cases hc : c e.1 k < 0
    · rw [if_pos hc] at h
      obtain ⟨hl, he⟩ := get_hit hO k l h
      have h2 : lbN c k (e :: l) = lbN c k l + 1 := by rw [lbN, if_pos hc]
      refine ⟨by rw [h2]; simpa using hl, ?_⟩
      rw [getN, if_pos hc, he]
      simp only [h2, List.getElem_cons_succ]
    · rw [if_neg hc, decide_eq_true_eq] at h
      have h2 : lbN c k (e :: l) = 0 := by rw [lbN, if_neg hc]
      refine ⟨by rw [h2]; simp, ?_⟩
      rw [getN, if_neg hc, if_pos h]
      simp only [h2, List.getElem_cons_zero]
theorem get_miss (k : κ) : ∀ l : List (κ × ν), inN c k l = false → getN c k l = none
  | [], _ => rfl
  | e :: l, h => by
    unfold inN at h
    unfold getN
    by_cases hc : c e.1 k < 0
    · rw [if_pos hc] at h ⊢
      rw [get_miss k l h]
    · rw [if_neg hc, decide_eq_false_iff_not] at h
      rw [if_neg hc, if_neg h]
theorem get_some (k : κ) : ∀ l : List (κ × ν), (getN c k l).isSome = inN c k l
  | [] => rfl
  | e :: l => by
    unfold getN inN
    by_cases hc : c e.1 k < 0
    · rw [if_pos hc, if_pos hc, get_some k l]
    · rw [if_neg hc, if_neg hc]
      by_cases h0 : c e.1 k = 0
      · rw [if_pos h0, decide_eq_true h0]; rfl
      · rw [if_neg h0, decide_eq_false h0]; rfl
theorem put_mem (k : κ) (v : ν) : ∀ (l : List (κ × ν)) (x : κ × ν), x ∈ putN c k v l → x = (k, v) ∨ x ∈ l
  | [], x, h => by simp [putN] at h; exact .inl h
  | e :: l, x, h => by
    unfold putN at h
    by_cases hc : c e.1 k < 0
    · rw [if_pos hc, List.mem_cons] at h
      rcases h with h | h
      · right; rw [h]; simp
      · rcases put_mem k v l x h with h | h
        · exact .inl h
        · right; simp [h]
    · rw [if_neg hc] at h
      split at h
      · rw [List.mem_cons] at h
        rcases h with h | h
        · exact .inl h
        · right; simp [h]
      · rw [List.mem_cons] at h
        rcases h with h | h
        · exact .inl h
        · exact .inr h
theorem drop_mem (k : κ) : ∀ (l : List (κ × ν)) (x : κ × ν), x ∈ dropN c k l → x ∈ l
  | [], x, h => h
  | e :: l, x, h => by
    unfold dropN at h
    by_cases hc : c e.1 k < 0
    · rw [if_pos hc, List.mem_cons] at h
      rcases h with h | h
      · rw [h]; simp
      · simp [drop_mem k l x h]
    · rw [if_neg hc] at h
      split at h
      · simp [h]
      · exact h
theorem Ord3.not_lt (hO : Ord3 c) {a b : κ} (h1 : ¬ c a b < 0) (h2 : ¬ c a b = 0) : c b a < 0 := by have := hO.neg a b; omega
theorem put_up (hO : Ord3 c) (k : κ) (v : ν) : ∀ l : List (κ × ν), Up c l → Up c (putN c k v l)
  | [], _ => by simp [putN, Up]
  | e :: l, hu => by
    unfold putN
    by_cases hc : c e.1 k < 0
    · rw [if_pos hc]
      refine List.pairwise_cons.2 ⟨fun x hx => ?_, put_up hO k v l hu.tail⟩
      rcases put_mem k v l x hx with rfl | hx
      · exact hc
      · exact hu.head x hx
    · rw [if_neg hc]
      by_cases h0 : c e.1 k = 0
      · rw [if_pos h0]
        have he := hO.zero _ _ h0
        subst he
        exact List.pairwise_cons.2 ⟨fun x hx => hu.head x hx, hu.tail⟩
      · rw [if_neg h0]
        have hk := hO.not_lt hc h0
        refine List.pairwise_cons.2 ⟨fun x hx => ?_, hu⟩
        rw [List.mem_cons] at hx
        rcases hx with rfl | hx
        · exact hk
        · exact hO.trans _ _ _ hk (hu.head x hx)
theorem drop_up (hO : Ord3 c) (k : κ) : ∀ l : List (κ × ν), Up c l → Up c (dropN c k l)
  | [], h => h
  | e :: l, hu => by
    unfold dropN
    by_cases hc : c e.1 k < 0
    · rw [if_pos hc]
      exact List.pairwise_cons.2 ⟨fun x hx => hu.head x (drop_mem k l x hx), drop_up hO k l hu.tail⟩
    · rw [if_neg hc]
      split
      · exact hu.tail
      · exact hu
theorem put_len (k : κ) (v : ν) : ∀ l : List (κ × ν), (putN c k v l).length = if inN c k l = true then l.length else l.length + 1
  | [] => rfl
  | e :: l => by
    unfold putN inN
    by_cases hc : c e.1 k < 0
    · rw [if_pos hc, if_pos hc, List.length_cons, put_len k v l, List.length_cons]; split <;> rfl
    · rw [if_neg hc, if_neg hc]
      by_cases h0 : c e.1 k = 0
      · rw [if_pos h0, decide_eq_true h0]; simp
      · rw [if_neg h0, decide_eq_false h0]; simp
theorem dropN_len (k : κ) : ∀ l : List (κ × ν), (dropN c k l).length ≤ l.length
  | [] => Nat.le_refl _
  | e :: l => by
    unfold dropN
    by_cases hc : c e.1 k < 0
    · rw [if_pos hc]; have := dropN_len k l; simp; omega
    · rw [if_neg hc]; split <;> simp
/-- what a row of all by one loop is: those below, the new one, those above -/
theorem put_filter (hO : Ord3 c) (k : κ) (v : ν) : ∀ l : List (κ × ν), Up c l → putN c k v l = l.filter (fun e => decide (c e.1 k < 0)) ++ (k, v) :: l.filter (fun e => decide (0 < c e.1 k))
  | [], _ => rfl
  | e :: l, hu => by
    unfold putN
    by_cases hc : c e.1 k < 0
    · rw [if_pos hc, put_filter hO k v l hu.tail, List.filter_cons_of_pos (by simpa using hc), List.filter_cons_of_neg (by simp; omega)]
      rfl
    · rw [if_neg hc]
      have hge : ∀ x ∈ l, 0 < c x.1 k := fun x hx => by
        have h1 := hu.head x hx
        by_cases h0 : c e.1 k = 0
        · have he := hO.zero _ _ h0
          rw [← he]
          have := hO.neg e.1 x.1
          omega
        · have h2 := hO.not_lt hc h0
          have h3 := hO.trans _ _ _ h2 h1
          have := hO.neg k x.1
          omega
      have hA : l.filter (fun e => decide (c e.1 k < 0)) = [] := List.filter_eq_nil_iff.2 fun x hx => by have := hge x hx; simp; omega
      have hB : l.filter (fun e => decide (0 < c e.1 k)) = l := List.filter_eq_self.2 fun x hx => by simpa using hge x hx
      by_cases h0 : c e.1 k = 0
      · rw [if_pos h0, List.filter_cons_of_neg (by simp; omega), List.filter_cons_of_neg (by simp; omega), hA, hB]; rfl
      · rw [if_neg h0, List.filter_cons_of_neg (by simp; omega), List.filter_cons_of_pos (by simp; omega), hA, hB]; rfl
theorem drop_filter (hO : Ord3 c) (k : κ) : ∀ l : List (κ × ν), Up c l → dropN c k l = l.filter (fun e => !decide (c e.1 k = 0))
  | [], _ => rfl
  | e :: l, hu => by
    unfold dropN
    by_cases hc : c e.1 k < 0
    · rw [if_pos hc, drop_filter hO k l hu.tail, List.filter_cons_of_pos (by simp; omega)]
    · rw [if_neg hc]
      have hge : ∀ x ∈ l, 0 < c x.1 k := fun x hx => by
        have h1 := hu.head x hx
        by_cases h0 : c e.1 k = 0
        · have he := hO.zero _ _ h0
          rw [← he]
          have := hO.neg e.1 x.1
          omega
        · have h2 := hO.not_lt hc h0
          have h3 := hO.trans _ _ _ h2 h1
          have := hO.neg k x.1
          omega
      have hB : l.filter (fun e => !decide (c e.1 k = 0)) = l := List.filter_eq_self.2 fun x hx => by have := hge x hx; simp; omega
      by_cases h0 : c e.1 k = 0
      · rw [if_pos h0, List.filter_cons_of_neg (by simp; omega), hB]
      · rw [if_neg h0, List.filter_cons_of_pos (by simp; omega), hB]
theorem get_find (hO : Ord3 c) (k : κ) : ∀ l : List (κ × ν), Up c l → getN c k l = (l.find? fun e => decide (c e.1 k = 0)).map (·.2)
  | [], _ => rfl
  | e :: l, hu => by
    unfold getN
    by_cases hc : c e.1 k < 0
    · rw [if_pos hc, get_find hO k l hu.tail, List.find?_cons_of_neg (by simp; omega)]
    · rw [if_neg hc]
      by_cases h0 : c e.1 k = 0
      · rw [if_pos h0, List.find?_cons_of_pos (by simpa using h0)]; rfl
      · rw [if_neg h0, List.find?_cons_of_neg (by simpa using h0)]
        have h2 := hO.not_lt hc h0
        have hn : l.find? (fun e => decide (c e.1 k = 0)) = none := List.find?_eq_none.2 fun x hx => by
          have h3 := hO.trans _ _ _ h2 (hu.head x hx)
          have := hO.neg k x.1
          simp; omega
        rw [hn]; rfl
end
end Sw
