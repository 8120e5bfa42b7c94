/- Plain laws of patterns. -/
import Derived.Test.YtjglkbbhihlcgaaDoorKit
import Derived.WalkKit
import Derived.Deep.OwnRows
import Derived.Test.YtjglkbbhihlcgaaDoorOrdPlain
set_option linter.unusedVariables false
set_option linter.unusedSimpArgs false
namespace Sw
open Go Go.RowKit
/-- does it hold of some end of a list? -/
def sfx {α : Type} (f : List α → Bool) : List α → Bool
  | [] => f []
  | x :: s => f (x :: s) || sfx f s
/-- one sign -/
def hdm (c : UInt8) (f : List UInt8 → Bool) : List UInt8 → Bool
  | [] => false
  | x :: t => (c == 63 || c == x) && f t
/-- does a pattern's part match a part? -/
def mat : List UInt8 → List UInt8 → Bool
  | [], s => s.isEmpty
  | c :: p, s => if c = 42 then sfx (mat p) s else hdm c (mat p) s
inductive MatI : List UInt8 → List UInt8 → Prop
  | nil : MatI [] []
  | star {p s : List UInt8} (t : List UInt8) : MatI p s → MatI (42 :: p) (t ++ s)
  | one {c x : UInt8} {p s : List UInt8} : c ≠ 42 → (c = 63 ∨ c = x) → MatI p s → MatI (c :: p) (x :: s)
theorem sfx_iff {α : Type} (f : List α → Bool) : ∀ s : List α, sfx f s = true ↔ ∃ a b, s = a ++ b ∧ f b = true
  | [] => by
    constructor
    · exact fun h => ⟨[], [], rfl, h⟩
    · rintro ⟨a, b, h1, h2⟩
      have := List.append_eq_nil_iff.1 h1.symm
      rw [this.2] at h2
      exact h2
  | x :: s => by
    rw [sfx, Bool.or_eq_true, sfx_iff f s]
    constructor
    · rintro (h | ⟨a, b, h1, h2⟩)
      · exact ⟨[], x :: s, rfl, h⟩
      · exact ⟨x :: a, b, by rw [h1]; rfl, h2⟩
    · rintro ⟨a, b, h1, h2⟩
      cases a with
      | nil =>
        rw [List.nil_append] at h1
        rw [h1]
        exact .inl h2
      | cons y a =>
        rw [List.cons_append] at h1
        injection h1 with h3 h4
        exact .inr ⟨a, b, h4, h2⟩
theorem mat_iff : ∀ p s : List UInt8, mat p s = true ↔ MatI p s
  | [], s => by
    rw [mat]
    cases s with
    | nil => exact ⟨fun _ => .nil, fun _ => rfl⟩
    | cons x s => exact ⟨fun h => (by cases h), fun h => (by cases h)⟩
  | c :: p, s => by
    rw [mat]
    by_cases hc : c = 42
    · subst hc
      rw [if_pos rfl, sfx_iff]
      constructor
      · rintro ⟨a, b, rfl, h⟩
        exact .star a ((mat_iff p b).1 h)
      · intro h
        cases h with
        | star t h => exact ⟨t, _, rfl, (mat_iff p _).2 h⟩
        | one h => exact absurd rfl h
    · rw [if_neg hc]
      cases s with
      | nil =>
        refine ⟨fun h => (by cases h), fun h => ?_⟩
        generalize hs : ([] : List UInt8) = s at h
        cases h with
        | star t h => exact absurd rfl hc
        | one h1 h2 h3 => cases hs
      | cons x s =>
        rw [hdm]
        simp only [Bool.and_eq_true, Bool.or_eq_true, beq_iff_eq]
        constructor
        · rintro ⟨h1, h2⟩
          exact .one hc h1 ((mat_iff p s).1 h2)
        · intro h
          generalize hs : x :: s = s' at h
          cases h with
          | star t h => exact absurd rfl hc
          | one h1 h2 h3 =>
            injection hs with e1 e2
            subst e1
            subst e2
            exact ⟨h2, (mat_iff p _).2 h3⟩
theorem MatI.app {p s q t : List UInt8} (h : MatI p s) (k : MatI q t) : MatI (p ++ q) (s ++ t) := by
  induction h with
  | nil => exact k
  | star u h ih => rw [List.cons_append, List.append_assoc]; exact .star u ih
  | one h1 h2 h3 ih => exact .one h1 h2 ih
theorem MatI.rev {p s : List UInt8} (h : MatI p s) : MatI p.reverse s.reverse := by
  induction h with
  | nil => exact .nil
  | star u h ih =>
    rw [List.reverse_cons, List.reverse_append]
    refine ih.app ?_
    have := MatI.star u.reverse MatI.nil
    rw [List.append_nil] at this
    exact this
  | one h1 h2 h3 ih =>
    rw [List.reverse_cons, List.reverse_cons]
    exact ih.app (.one h1 h2 .nil)
theorem mat_rev (p s : List UInt8) : mat p.reverse s.reverse = mat p s := by
  cases h : mat p s with
  | true => exact (mat_iff _ _).2 ((mat_iff _ _).1 h).rev
  | false =>
    cases h2 : mat p.reverse s.reverse with
    | false => rfl
    | true =>
      have := ((mat_iff _ _).1 h2).rev
      rw [List.reverse_reverse, List.reverse_reverse] at this
      rw [(mat_iff _ _).2 this] at h
      cases h
theorem mat_star_nil (p : List UInt8) : mat (42 :: p) [] = mat p [] := by rw [mat, if_pos rfl, sfx]
theorem mat_star_cons (p : List UInt8) (x : UInt8) (s : List UInt8) : mat (42 :: p) (x :: s) = (mat p (x :: s) || mat (42 :: p) s) := by
  rw [mat, if_pos rfl, sfx, mat, if_pos rfl]
theorem mat_one_nil {c : UInt8} (hc : c ≠ 42) (p : List UInt8) : mat (c :: p) [] = false := by rw [mat, if_neg hc, hdm]
theorem mat_one_cons {c : UInt8} (hc : c ≠ 42) (p : List UInt8) (x : UInt8) (s : List UInt8) : mat (c :: p) (x :: s) = ((c == 63 || c == x) && mat p s) := by rw [mat, if_neg hc, hdm]
/-- by the first bytes -/
def fw (p s : List UInt8) (i k : Nat) : Bool := mat (p.take i).reverse (s.take k).reverse
theorem rev_take (p : List UInt8) (i : Nat) (h : i < p.length) : (p.take (i + 1)).reverse = p[i] :: (p.take i).reverse := by
  rw [List.take_succ_eq_append_getElem h, List.reverse_append]
  rfl
theorem fw_zero (p s : List UInt8) (k : Nat) (hk : k ≤ s.length) : fw p s 0 k = decide (k = 0) := by
  unfold fw
  rw [List.take_zero, List.reverse_nil, mat]
  by_cases h : k = 0
  · subst h; rfl
  · rw [decide_eq_false h, List.isEmpty_eq_false_iff]
    intro e
    have := congrArg List.length e
    rw [List.length_reverse, List.length_take, List.length_nil] at this
    omega
theorem fw_star0 (p s : List UInt8) (i : Nat) (h : i < p.length) (hc : p[i] = 42) : fw p s (i + 1) 0 = fw p s i 0 := by
  unfold fw
  rw [rev_take p i h, hc, List.take_zero, List.reverse_nil, mat_star_nil]
theorem fw_star (p s : List UInt8) (i k : Nat) (h : i < p.length) (hc : p[i] = 42) (hk : k < s.length) : fw p s (i + 1) (k + 1) = (fw p s i (k + 1) || fw p s (i + 1) k) := by
  unfold fw
  rw [rev_take p i h, hc, rev_take s k hk, mat_star_cons]
theorem fw_one0 (p s : List UInt8) (i : Nat) (h : i < p.length) (hc : p[i] ≠ 42) : fw p s (i + 1) 0 = false := by
  unfold fw
  rw [rev_take p i h, List.take_zero, List.reverse_nil, mat_one_nil hc]
theorem fw_one (p s : List UInt8) (i k : Nat) (h : i < p.length) (hc : p[i] ≠ 42) (hk : k < s.length) : fw p s (i + 1) (k + 1) = ((p[i] == 63 || p[i] == s[k]) && fw p s i k) := by
  unfold fw
  rw [rev_take p i h, rev_take s k hk, mat_one_cons hc]
theorem fw_end (p s : List UInt8) : fw p s p.length s.length = mat p s := by
  unfold fw
  rw [List.take_length, List.take_length, mat_rev]
/-- by the last bytes -/
def bw (p s : List UInt8) (i k : Nat) : Bool := mat (p.drop i) (s.drop k)
theorem bw_end (p s : List UInt8) (k : Nat) (hk : k ≤ s.length) : bw p s p.length k = decide (k = s.length) := by
  unfold bw
  rw [List.drop_length, mat]
  by_cases h : k = s.length
  · subst h; rw [List.drop_length, decide_eq_true rfl]; rfl
  · rw [decide_eq_false h, List.isEmpty_eq_false_iff]
    intro e
    have := congrArg List.length e
    rw [List.length_drop, List.length_nil] at this
    omega
theorem bw_starE (p s : List UInt8) (i : Nat) (h : i < p.length) (hc : p[i] = 42) : bw p s i s.length = bw p s (i + 1) s.length := by
  unfold bw
  rw [List.drop_eq_getElem_cons h, hc, List.drop_length, mat_star_nil]
theorem bw_star (p s : List UInt8) (i k : Nat) (h : i < p.length) (hc : p[i] = 42) (hk : k < s.length) : bw p s i k = (bw p s (i + 1) k || bw p s i (k + 1)) := by
  unfold bw
  rw [List.drop_eq_getElem_cons h, hc, List.drop_eq_getElem_cons hk, mat_star_cons]
theorem bw_oneE (p s : List UInt8) (i : Nat) (h : i < p.length) (hc : p[i] ≠ 42) : bw p s i s.length = false := by
  unfold bw
  rw [List.drop_eq_getElem_cons h, List.drop_length, mat_one_nil hc]
theorem bw_one (p s : List UInt8) (i k : Nat) (h : i < p.length) (hc : p[i] ≠ 42) (hk : k < s.length) : bw p s i k = ((p[i] == 63 || p[i] == s[k]) && bw p s (i + 1) (k + 1)) := by
  unfold bw
  rw [List.drop_eq_getElem_cons h, List.drop_eq_getElem_cons hk, mat_one_cons hc]
theorem bw_start (p s : List UInt8) : bw p s 0 0 = mat p s := rfl
/-- one part -/
def hdp (x : ByteArray) (f : List ByteArray → Bool) : List ByteArray → Bool
  | [] => false
  | y :: t => mat x.data.toList y.data.toList && f t
/-- do a pattern's parts match a path's? -/
def pm : List ByteArray → List ByteArray → Bool
  | [], b => b.isEmpty
  | x :: a, b => if x = mkB [42, 42] then sfx (pm a) b else hdp x (pm a) b
/-- is a pattern right? -/
def pRight (s : ByteArray) (L : List ByteArray) : Bool := decide (s.size ≤ 200) && decide (L.length ≤ 12) && !L.any (fun x => decide (x = ⟨#[]⟩)) && !decide ((0 : UInt8) ∈ s.data.toList)
end Sw
