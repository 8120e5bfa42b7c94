/- Two maps side by side: what the next word says, by the places in both rows. What a kept world keeps. -/
import Derived.Test.YtpnkgldpmalklaaSrtFilled
import Derived.Test.YtpnkgldpmalklaaJoinPlain
set_option linter.unusedVariables false
set_option linter.unusedSimpArgs false
namespace Sw
section
variable {κ ν : Type} {c : κ → κ → Int}
theorem drop_cons {α : Type} {l : List α} {i : Nat} {a : α} {x : List α} (h : l.drop i = a :: x) : ∃ hi : i < l.length, l[i] = a ∧ l.drop (i + 1) = x := by
  have hi : i < l.length := by
    rcases Nat.lt_or_ge i l.length with h1 | h1
    · exact h1
    · rw [List.drop_eq_nil_of_le h1] at h; cases h
  rw [List.drop_eq_getElem_cons hi] at h
  injection h with h1 h2
  exact ⟨hi, h1, h2⟩
theorem join_step (xs ys : List (κ × ν)) (pre : List (κ × Option ν × Option ν)) (e : κ × Option ν × Option ν) (i k : Nat) (h1 : pre ++ joinL c (xs.drop i) (ys.drop k) = joinL c xs ys) (h2 : (pre ++ [e]) <+: joinL c xs ys) :
    (∃ hi : i < xs.length, e = (xs[i].1, some xs[i].2, none) ∧ (pre ++ [e]) ++ joinL c (xs.drop (i + 1)) (ys.drop k) = joinL c xs ys ∧ ∀ hk : k < ys.length, c xs[i].1 ys[k].1 < 0) ∨
    (∃ hk : k < ys.length, e = (ys[k].1, none, some ys[k].2) ∧ (pre ++ [e]) ++ joinL c (xs.drop i) (ys.drop (k + 1)) = joinL c xs ys ∧ ∀ hi : i < xs.length, 0 < c xs[i].1 ys[k].1) ∨
    (∃ (hi : i < xs.length) (hk : k < ys.length), e = (ys[k].1, some xs[i].2, some ys[k].2) ∧ (pre ++ [e]) ++ joinL c (xs.drop (i + 1)) (ys.drop (k + 1)) = joinL c xs ys ∧ c xs[i].1 ys[k].1 = 0) := by
  obtain ⟨r, hr⟩ := h2
  have hj : e :: r = joinL c (xs.drop i) (ys.drop k) := by
    rw [← h1, List.append_assoc] at hr
    exact List.append_cancel_left hr
  have hpos : 0 < (xs.drop i).length + (ys.drop k).length := by
    rcases Nat.eq_zero_or_pos ((xs.drop i).length + (ys.drop k).length) with h0 | h0
    · have e1 : xs.drop i = [] := List.length_eq_zero_iff.1 (by omega)
      have e2 : ys.drop k = [] := List.length_eq_zero_iff.1 (by omega)
      rw [e1, e2] at hj
      cases hj
    · exact h0
  rcases join_cases (c := c) _ _ hpos with ⟨hs, a, x', hx, hq⟩ | ⟨hs, b, y', hy, hq⟩ | ⟨hs, a, x', b, y', hx, hy, hq⟩
  · obtain ⟨hi, ea, ex⟩ := drop_cons hx
    rw [hq] at hj h1
    injection hj with he _
    refine .inl ⟨hi, by rw [ea]; exact he, ?_, fun hk => ?_⟩
    · rw [← h1, ex, he, List.append_assoc]; rfl
    · rw [hx, List.drop_eq_getElem_cons hk] at hs
      rw [ea]
      exact hs
  · obtain ⟨hk, eb, ey⟩ := drop_cons hy
    rw [hq] at hj h1
    injection hj with he _
    refine .inr (.inl ⟨hk, by rw [eb]; exact he, ?_, fun hi => ?_⟩)
    · rw [← h1, ey, he, List.append_assoc]; rfl
    · rw [hy, List.drop_eq_getElem_cons hi] at hs
      rw [eb]
      exact hs
  · obtain ⟨hi, ea, ex⟩ := drop_cons hx
    obtain ⟨hk, eb, ey⟩ := drop_cons hy
    rw [hq] at hj h1
    injection hj with he _
    refine .inr (.inr ⟨hi, hk, by rw [ea, eb]; exact he, ?_, ?_⟩)
    · rw [← h1, ex, ey, he, List.append_assoc]; rfl
    · rw [hx, hy] at hs
      rw [ea, eb]
      exact hs
theorem join_done (xs ys : List (κ × ν)) (i k : Nat) (hi : i ≤ xs.length) (hk : k ≤ ys.length) (h : joinL c xs ys ++ joinL c (xs.drop i) (ys.drop k) = joinL c xs ys) : i = xs.length ∧ k = ys.length := by
  have h1 : joinL c (xs.drop i) (ys.drop k) = [] := by
    have := congrArg List.length h
    rw [List.length_append] at this
    exact List.length_eq_zero_iff.1 (by omega)
  obtain ⟨e1, e2⟩ := joinL_end _ _ h1
  have l1 := congrArg List.length e1
  have l2 := congrArg List.length e2
  rw [List.length_drop] at l1 l2
  simp at l1 l2
  omega
end
open Go Go.RowKit
theorem KeepP.drewN {K : Nat → Prop} {A B : World} (h : KeepP K A B) (m : Nat) : KeepP K A (B.drewN m) := h.trans ⟨(below_drewN (Below.refl B.heap.size B) m).size, fun g _ => rfl⟩
theorem own_keptP {K : Nat → Prop} {A B : World} {base : Nat} {e : TypeId} {size n : Nat} {v : Value} {xs : List Value} (h : A.ownsRow base e size v n xs) (hk : KeepP K A B) (hg : ∀ g, v.ownBlock = some g → K g) : B.ownsRow base e size v n xs := by
  rcases h.2 with ⟨rfl, h0⟩ | ⟨g, cap, cur, rfl, hb, hh, h1, h2, h3, h4⟩
  · exact ⟨h.1, .inl ⟨rfl, h0⟩⟩
  · exact ⟨h.1, .inr ⟨g, cap, cur, rfl, hb, (hk.same g (hg g rfl)).trans hh, h1, h2, h3, h4⟩⟩
theorem ownM_keepP {β : Type} {K : Nat → Prop} {B : Nat} {w0 : World} (hK : ∀ g, K g → g < w0.heap.size) (hB : w0.heap.size ≤ B) : OwnFrom B (fun (_ : β) W => KeepP K w0 W) := fun s W W' row hs hg hr =>
  hs.trans (KeepP.grown hg (fun g hgk => ⟨Nat.lt_of_lt_of_le (hK g hgk) hs.size, fun e => by have := (hr g e.symm).1; have := hK g hgk; omega⟩))
end Sw
namespace Go.Proofs.Ytpnkgldpmalklaa
open Go Go.RowKit Go.Shelf
open Sw
theorem SMapIS.keptP {K : Nat → Prop} {A B : World} {b : Nat} {xs : List EnS} (h : SMapIS A b xs) (hk : KeepP K A B) (hb : K b) (hg : ∀ v, Blk A b 95 #[ordFIS, v] → ∀ g, v.ownBlock = some g → K g) : SMapIS B b xs := by
  obtain ⟨⟨v, h1, h2⟩, hu, ho⟩ := h
  exact ⟨⟨v, h1.keptP hk hb, own_keptP h2 hk (hg v h1)⟩, hu, ho⟩
end Go.Proofs.Ytpnkgldpmalklaa
