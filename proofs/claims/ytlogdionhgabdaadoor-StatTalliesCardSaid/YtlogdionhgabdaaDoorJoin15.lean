/- Several texts, joined for the limit of sixty files; each one opens with its own comment. -/
import Derived.Test.YtlogdionhgabdaaDoorJoin14
import Derived.Test.YtlogdionhgabdaaDoorJoin9
/- slices.SortStableFunc at rows of stat.pair[int]: two blocks merged, whole. -/
set_option linter.unusedVariables false
set_option linter.unusedSimpArgs false
namespace Go.Proofs.YtlogdionhgabdaaDoor
open Go Go.RowKit
open Sw
theorem symMergePI_any (cmp : Int × Int → Int × Int → Int) (HC : Cmp cmp) (hcall : ∀ W x y, Calls Tryd.prog 29 #[.agg (eCPI x).toArray, .agg (eCPI y).toArray] W fun e w' => e = .returned (.int .i64 (cmp x y)) ∧ Below W.heap.size W w')
    (base : Nat) (A : Option Addr) (c n : Nat) (hn : n ≤ 1000000) : ∀ k, ShorterPI cmp base A c n k := by
  intro k
  induction k with
  | zero => intro W a m b P L R Q h; exact absurd h (Nat.not_lt_zero _)
  | succ k ih =>
    intro W a m b P L R Q hk hP hL hR hL0 hR0 hupL hupR hcame hbs hrow
    by_cases h1 : L.length = 1
    · obtain ⟨x, rfl⟩ := List.length_eq_one_iff.1 h1
      have hr : RowDPI W base (.slice A n c) n (P ++ x :: (R ++ Q)) := by
        have e : P ++ [x] ++ R ++ Q = P ++ x :: (R ++ Q) := by simp
        rw [← e]; exact hrow
      exact mergeLPI_any cmp HC hcall W base A c n a m b P R Q x hn hP hL.symm hR hupR (fun q hq => hcame x (by simp) q hq) hbs hr
    · by_cases h2 : R.length = 1
      · obtain ⟨x, rfl⟩ := List.length_eq_one_iff.1 h2
        have hr : RowDPI W base (.slice A n c) n (P ++ L ++ x :: Q) := by
          have e : P ++ L ++ [x] ++ Q = P ++ L ++ x :: Q := by simp
          rw [← e]; exact hrow
        exact mergeRPI_any cmp HC hcall W base A c n a m b P L Q x hn hP hL (by omega) hR.symm hupL (fun q hq => hcame q hq x (by simp)) hbs hr
      · exact mergeMPI_any cmp HC hcall W base A c n a m b P L R Q hn hP hL hR (by omega) (by omega) hupL hupR hcame hbs hrow (fun W' a' m' b' P' L' R' Q' hk' => ih W' a' m' b' P' L' R' Q' (by omega))
end Go.Proofs.YtlogdionhgabdaaDoor
/- A stable sort, plainly: rows of blocks, each in order, each come ahead of the next. -/
set_option linter.unusedVariables false
set_option linter.unusedSimpArgs false
namespace Sw
section
variable {α : Type} {c : α → α → Int}
theorem Came.perm {l l' m m' : List (α × Nat)} (h : Came l m) (hl : l'.Perm l) (hm : m'.Perm m) : Came l' m' := fun p hp q hq => h p (hl.mem_iff.1 hp) q (hm.mem_iff.1 hq)
theorem came_two {X1 X2 : List (List (α × Nat))} {B1 B2 M : List (α × Nat)} (h : (X1 ++ B1 :: B2 :: X2).Pairwise Came) (hM : M.Perm (B1 ++ B2)) : (X1 ++ M :: X2).Pairwise Came := by
  obtain ⟨h1, h2, h3⟩ := List.pairwise_append.1 h
  obtain ⟨k1, k2⟩ := List.pairwise_cons.1 h2
  obtain ⟨k3, k4⟩ := List.pairwise_cons.1 k2
  have hin : ∀ p, p ∈ M → p ∈ B1 ∨ p ∈ B2 := fun p hp => List.mem_append.1 (hM.mem_iff.1 hp)
  refine List.pairwise_append.2 ⟨h1, List.pairwise_cons.2 ⟨fun Y hY p hp q hq => ?_, k4⟩, fun Z hZ Y hY => ?_⟩
  · rcases hin p hp with h | h
    · exact k1 Y (List.mem_cons_of_mem _ hY) p h q hq
    · exact k3 Y hY p h q hq
  · rcases List.mem_cons.1 hY with rfl | hY
    · intro p hp q hq
      rcases hin q hq with h | h
      · exact h3 Z hZ B1 (by simp) p hp q h
      · exact h3 Z hZ B2 (by simp) p hp q h
    · exact h3 Z hZ Y (by simp [hY])
theorem came_cut {X1 : List (List (α × Nat))} {T1 T2 M : List (α × Nat)} (h : (X1 ++ [T1 ++ T2]).Pairwise Came) (hr : (T1 ++ T2).Pairwise fun p q => p.2 < q.2) (hM : M.Perm T1) : (X1 ++ [M] ++ [T2]).Pairwise Came := by
  obtain ⟨h1, _, h3⟩ := List.pairwise_append.1 h
  have hc := (List.pairwise_append.1 hr).2.2
  rw [List.append_assoc]
  refine List.pairwise_append.2 ⟨h1, List.pairwise_cons.2 ⟨fun Y hY => ?_, List.pairwise_singleton _ _⟩, fun Z hZ Y hY => ?_⟩
  · obtain rfl := List.mem_singleton.1 hY
    exact fun p hp q hq => hc p (hM.mem_iff.1 hp) q hq
  · have h4 := h3 Z hZ _ (List.mem_singleton.2 rfl)
    simp only [List.cons_append, List.nil_append, List.mem_cons, List.not_mem_nil, or_false] at hY
    rcases hY with rfl | rfl
    · exact fun p hp q hq => h4 p hp q (List.mem_append_left _ (hM.mem_iff.1 hq))
    · exact fun p hp q hq => h4 p hp q (List.mem_append_right _ hq)
/-- blocks of one length, each in order -/
def Blks (c : α → α → Int) (bs : Nat) (bl : List (List (α × Nat))) : Prop := ∀ B ∈ bl, B.length = bs ∧ UpS c B
theorem Blks.nil {bs : Nat} : Blks c bs [] := fun B h => by cases h
theorem Blks.snoc {bs : Nat} {bl : List (List (α × Nat))} {B : List (α × Nat)} (h : Blks c bs bl) (hl : B.length = bs) (hu : UpS c B) : Blks c bs (bl ++ [B]) := fun Y hY => by
  rcases List.mem_append.1 hY with h' | h'
  · exact h Y h'
  · rw [List.mem_singleton.1 h']; exact ⟨hl, hu⟩
theorem Blks.len {bs : Nat} : ∀ {bl : List (List (α × Nat))}, Blks c bs bl → bl.flatten.length = bl.length * bs
  | [], _ => by simp
  | B :: bl, h => by
    rw [List.flatten_cons, List.length_append, (h B (by simp)).1, Blks.len (bl := bl) (fun Y hY => h Y (by simp [hY])), List.length_cons, Nat.add_mul, Nat.one_mul, Nat.add_comm]
/-- a whole row in blocks -/
def Sorts (c : α → α → Int) (bs : Nat) (X l : List (α × Nat)) : Prop :=
  ∃ (bl : List (List (α × Nat))) (F : List (α × Nat)), l = bl.flatten ++ F ∧ Blks c bs bl ∧ F.length < bs ∧ UpS c F ∧ (bl ++ [F]).Pairwise Came ∧ l.Perm X
/-- blocks as long as the row: the row is in order -/
theorem Sorts.done {bs : Nat} {X l : List (α × Nat)} (h : Sorts c bs X l) (hl : l.length ≤ bs) : l.Perm X ∧ UpS c l := by
  obtain ⟨bl, F, rfl, hb, hF, hu, hc, hp⟩ := h
  refine ⟨hp, ?_⟩
  rcases bl with _ | ⟨B, bl⟩
  · simpa using hu
  · have h1 := hb B (by simp)
    rw [List.flatten_cons, List.length_append, List.length_append, h1.1] at hl
    have e1 : F = [] := List.eq_nil_of_length_eq_zero (by omega)
    have e2 : bl.flatten = [] := List.eq_nil_of_length_eq_zero (by omega)
    rw [List.flatten_cons, e1, e2]
    simpa using h1.2
end
end Sw
