/- Two maps side by side: plain laws; what a round keeps. -/
import Derived.Test.YtpnkgldpmalklaaSrtPlain
import Derived.Test.YtpnkgldpmalklaaLies
set_option linter.unusedVariables false
set_option linter.unusedSimpArgs false
namespace Sw
section
variable {κ ν : Type} {c : κ → κ → Int}
/-- by which of two rows the next key is -/
def sideL (c : κ → κ → Int) : List (κ × ν) → List (κ × ν) → Int
  | _, [] => -1
  | [], _ :: _ => 1
  | a :: _, b :: _ => c a.1 b.1
def joinF (c : κ → κ → Int) : Nat → List (κ × ν) → List (κ × ν) → List (κ × Option ν × Option ν)
  | 0, _, _ => []
  | _ + 1, [], [] => []
  | n + 1, a :: x, [] => (a.1, some a.2, none) :: joinF c n x []
  | n + 1, [], b :: y => (b.1, none, some b.2) :: joinF c n [] y
  | n + 1, a :: x, b :: y => if c a.1 b.1 < 0 then (a.1, some a.2, none) :: joinF c n x (b :: y) else if 0 < c a.1 b.1 then (b.1, none, some b.2) :: joinF c n (a :: x) y else (b.1, some a.2, some b.2) :: joinF c n x y
/-- two rows that rise, as one: each key with its thing on the one side, and on the other one -/
def joinL (c : κ → κ → Int) (x y : List (κ × ν)) : List (κ × Option ν × Option ν) := joinF c (x.length + y.length) x y
theorem joinF_more : ∀ (n m : Nat) (x y : List (κ × ν)), x.length + y.length ≤ n → x.length + y.length ≤ m → joinF c n x y = joinF c m x y
  | 0, m, [], [], _, _ => by cases m <;> rfl
  | n + 1, 0, [], [], _, _ => rfl
  | n + 1, m + 1, [], [], _, _ => rfl
  | n + 1, m + 1, a :: x, [], h1, h2 => by
    unfold joinF
    simp only [List.length_cons, List.length_nil] at h1 h2
    rw [joinF_more n m x [] (by simp only [List.length_nil]; omega) (by simp only [List.length_nil]; omega)]
  | n + 1, m + 1, [], b :: y, h1, h2 => by
    unfold joinF
    simp only [List.length_cons, List.length_nil] at h1 h2
    rw [joinF_more n m [] y (by simp only [List.length_nil]; omega) (by simp only [List.length_nil]; omega)]
  | n + 1, m + 1, a :: x, b :: y, h1, h2 => by
    unfold joinF
    simp only [List.length_cons] at h1 h2
    rw [joinF_more n m x (b :: y) (by simp only [List.length_cons]; omega) (by simp only [List.length_cons]; omega), joinF_more n m (a :: x) y (by simp only [List.length_cons]; omega) (by simp only [List.length_cons]; omega), joinF_more n m x y (by omega) (by omega)]
  | 0, _, a :: x, y, h1, _ => by simp only [List.length_cons] at h1; omega
  | 0, _, [], b :: y, h1, _ => by simp only [List.length_cons] at h1; omega
  | _ + 1, 0, a :: x, y, _, h2 => by simp only [List.length_cons] at h2; omega
  | _ + 1, 0, [], b :: y, _, h2 => by simp only [List.length_cons] at h2; omega
theorem joinL_a (a : κ × ν) (x : List (κ × ν)) : joinL c (a :: x) [] = (a.1, some a.2, none) :: joinL c x [] := by
  unfold joinL
  rw [show (a :: x).length + ([] : List (κ × ν)).length = (x.length + ([] : List (κ × ν)).length) + 1 from by simp only [List.length_cons]; omega]
  rfl
theorem joinL_b (b : κ × ν) (y : List (κ × ν)) : joinL c [] (b :: y) = (b.1, none, some b.2) :: joinL c [] y := by
  unfold joinL
  rw [show ([] : List (κ × ν)).length + (b :: y).length = (([] : List (κ × ν)).length + y.length) + 1 from by simp only [List.length_cons]; omega]
  rfl
theorem joinL_ab (a b : κ × ν) (x y : List (κ × ν)) : joinL c (a :: x) (b :: y) = if c a.1 b.1 < 0 then (a.1, some a.2, none) :: joinL c x (b :: y) else if 0 < c a.1 b.1 then (b.1, none, some b.2) :: joinL c (a :: x) y else (b.1, some a.2, some b.2) :: joinL c x y := by
  unfold joinL
  rw [show (a :: x).length + (b :: y).length = (x.length + y.length + 1) + 1 from by simp only [List.length_cons]; omega]
  conv => lhs; unfold joinF
  rw [joinF_more (x.length + y.length + 1) (x.length + (b :: y).length) x (b :: y) (by simp only [List.length_cons]; omega) (Nat.le_refl _), joinF_more (x.length + y.length + 1) ((a :: x).length + y.length) (a :: x) y (by simp only [List.length_cons]; omega) (Nat.le_refl _), joinF_more (x.length + y.length + 1) (x.length + y.length) x y (by omega) (Nat.le_refl _)]
/-- the next of both -/
theorem join_cases (x y : List (κ × ν)) (h : 0 < x.length + y.length) :
    (sideL c x y < 0 ∧ ∃ a x', x = a :: x' ∧ joinL c x y = (a.1, some a.2, none) :: joinL c x' y) ∨
    (0 < sideL c x y ∧ ∃ b y', y = b :: y' ∧ joinL c x y = (b.1, none, some b.2) :: joinL c x y') ∨
    (sideL c x y = 0 ∧ ∃ a x' b y', x = a :: x' ∧ y = b :: y' ∧ joinL c x y = (b.1, some a.2, some b.2) :: joinL c x' y') := by
  cases x with
  | nil =>
    cases y with
    | nil => simp at h
    | cons b y => exact .inr (.inl ⟨(by decide : (0 : Int) < 1), b, y, rfl, joinL_b b y⟩)
  | cons a x =>
    cases y with
    | nil => exact .inl ⟨(by decide : (-1 : Int) < 0), a, x, rfl, joinL_a a x⟩
    | cons b y =>
      rcases Int.lt_trichotomy (c a.1 b.1) 0 with h1 | h1 | h1
      · exact .inl ⟨h1, a, x, rfl, by rw [joinL_ab, if_pos h1]⟩
      · exact .inr (.inr ⟨h1, a, x, b, y, rfl, rfl, by rw [joinL_ab, if_neg (by omega), if_neg (by omega)]⟩)
      · exact .inr (.inl ⟨h1, b, y, rfl, by rw [joinL_ab, if_neg (by omega), if_pos h1]⟩)
theorem joinL_nil : joinL c ([] : List (κ × ν)) [] = [] := rfl
theorem joinL_end (x y : List (κ × ν)) (h : joinL c x y = []) : x = [] ∧ y = [] := by
  by_cases h0 : 0 < x.length + y.length
  · rcases join_cases (c := c) x y h0 with ⟨_, a, x', _, e⟩ | ⟨_, b, y', _, e⟩ | ⟨_, a, x', b, y', _, _, e⟩ <;> rw [e] at h <;> cases h
  · exact ⟨List.length_eq_zero_iff.1 (by omega), List.length_eq_zero_iff.1 (by omega)⟩
theorem joinF_len : ∀ (n : Nat) (x y : List (κ × ν)), (joinF c n x y).length ≤ n
  | 0, _, _ => Nat.le_refl _
  | n + 1, [], [] => Nat.zero_le _
  | n + 1, a :: x, [] => by unfold joinF; have := joinF_len n x []; simp only [List.length_cons]; omega
  | n + 1, [], b :: y => by unfold joinF; have := joinF_len n [] y; simp only [List.length_cons]; omega
  | n + 1, a :: x, b :: y => by
    unfold joinF
    have h1 := joinF_len n x (b :: y)
    have h2 := joinF_len n (a :: x) y
    have h3 := joinF_len n x y
    split
    · simp only [List.length_cons]; omega
    · split <;> simp only [List.length_cons] <;> omega
theorem joinL_len (x y : List (κ × ν)) : (joinL c x y).length ≤ x.length + y.length := joinF_len _ x y
end
open Go Go.RowKit
/-- the blocks of which K is said lie as they lay -/
structure KeepP (K : Nat → Prop) (A B : World) : Prop where
  size : A.heap.size ≤ B.heap.size
  same : ∀ g, K g → B.heap[g]? = A.heap[g]?
theorem KeepP.refl (K : Nat → Prop) (A : World) : KeepP K A A := ⟨Nat.le_refl _, fun _ _ => rfl⟩
theorem KeepP.trans {K : Nat → Prop} {A B C : World} (h : KeepP K A B) (k : KeepP K B C) : KeepP K A C := ⟨Nat.le_trans h.size k.size, fun g hg => (k.same g hg).trans (h.same g hg)⟩
theorem KeepP.below {K : Nat → Prop} {A B : World} {n : Nat} (h : Below n A B) (hK : ∀ g, K g → g < n) : KeepP K A B := ⟨h.size, fun g hg => h.block g (hK g hg)⟩
theorem KeepP.grown {K : Nat → Prop} {A B : World} {row : Option Nat} (h : A.grownBy B row) (hK : ∀ g, K g → g < A.heap.size ∧ some g ≠ row) : KeepP K A B := ⟨h.size, fun g hg => h.block g (hK g hg).1 (hK g hg).2⟩
theorem keepP_b {K : Nat → Prop} {w : World} (hK : ∀ g, K g → g < w.heap.size) (W : World) (l : Nat) (o o' : Obj) (hl : w.heap.size ≤ l) (h : W.heap[l]? = some o) (hc : o.isCells = false) (hw : o.isWalk = false) : KeepP K W (W.putObj l o') :=
  .below (belowK_b (Nat.le_refl _) W l o o' hl h hc hw) hK
theorem Blk.keptP {K : Nat → Prop} {A B : World} {g : Nat} {t : TypeId} {cs : Array Value} (h : Blk A g t cs) (hk : KeepP K A B) (hg : K g) : Blk B g t cs := (hk.same g hg).trans h
theorem Lies.keptP {K : Nat → Prop} {A B : World} {te : TypeId} {size : Nat} {α : Type} {E : α → List Value} {v : Value} {l : List α} (h : Lies A te size E v l) (hk : KeepP K A B) (hg : ∀ g, v.ownBlock = some g → K g) : Lies B te size E v l := h.kept fun g _ hv _ => hk.same g (hg g hv)
/-- how long a slice is -/
def slLen : Value → Nat
  | .slice _ n _ => n
  | _ => 0
end Sw
