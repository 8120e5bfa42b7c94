/- Several texts, joined for the limit of sixty files; each one opens with its own comment. -/
import Derived.Test.YtnpehjgnplaabaaGreatDoorJoin14
import Derived.StillTail
import Derived.StillTactics
import Derived.Deep.QuietTactic
import Derived.BigQuiet
/- Several texts, joined for the limit of sixty files; each one opens with its own comment. -/
/- slices.SortStableFunc at rows of api.Mark: two stretches side by side change places. -/
set_option linter.unusedVariables false
set_option linter.unusedSimpArgs false
namespace Go.Proofs.YtnpehjgnplaabaaGreatDoor
open Go Go.RowKit
open Sw
set_option maxRecDepth 100000 in
set_option maxHeartbeats 4000000 in
theorem rotateMK_any (w : World) (base : Nat) (A : Option Addr) (c : Nat) (cv : Value) (n a m b : Nat) (P U V Q : List ({ s : ByteArray // s.size ≤ 90000 } × Pr)) (hn : n ≤ 1000000) (hlen : (P ++ U ++ V ++ Q).length = n) (hP : P.length = a) (hU : a + U.length = m) (hV : m + V.length = b) (hU0 : 0 < U.length) (hV0 : 0 < V.length)
    (hown : w.ownsRow base 63 6 (.slice A n c) n ((P ++ U ++ V ++ Q).flatMap eCMK)) :
    Calls Tryz.prog 227 #[.slice A n c, .int .i64 a, .int .i64 m, .int .i64 b, cv] w fun e w' => e = .returned (.tuple #[]) ∧ w'.ownsRow base 63 6 (.slice A n c) n ((P ++ V ++ U ++ Q).flatMap eCMK) ∧ w.grownBy w' (Value.slice A n c).ownBlock := by
  have hlen' : P.length + U.length + V.length + Q.length = n := by rw [← hlen]; simp only [List.length_append]
  obtain ⟨T, hT⟩ : ∃ T, P ++ V ++ U ++ Q = T := ⟨_, rfl⟩
  have HT := Lib.hid hT
  have HO := Lib.hid (And.intro hown hlen)
  rw [hT]
  clear hT hown hlen
  have w1 : IntKind.i64.wrap ((m : Int) - a) = m - a := IntWalk.i64_in _ (by omega)
  have w2 : IntKind.i64.wrap ((b : Int) - m) = b - m := IntWalk.i64_in _ (by omega)
  go_enter Tryz.func227, Tryz.ntmps227
  go_wp2_with fail
  go_loopw [10, 11] (fun iv jv wr => ∃ (i j : Nat) (P' U' V' Q' : List ({ s : ByteArray // s.size ≤ 90000 } × Pr)), iv = .int .i64 i ∧ jv = .int .i64 j ∧ 0 < i ∧ 0 < j ∧ U'.length = i ∧ V'.length = j ∧ P'.length + i = m ∧ P' ++ V' ++ U' ++ Q' = T ∧ (P' ++ U' ++ V' ++ Q').length = n ∧ wr.ownsRow base 63 6 (.slice A n c) n ((P' ++ U' ++ V' ++ Q').flatMap eCMK) ∧ w.grownBy wr (Value.slice A n c).ownBlock) (fun iv jv _ => (intOf iv + intOf jv).toNat)
  case atStart => exact ⟨U.length, V.length, P, U, V, Q, by go_num, by go_num, hU0, hV0, rfl, rfl, by omega, HT.out, HO.out.2, HO.out.1, grown_refl _ _⟩
  case round =>
    obtain ⟨i, j, P', U', V', Q', rfl, rfl, hi0, hj0, hU', hV', hPi, hTT, hln, hrow, hg⟩ := hrel
    have hln' : P'.length + i + j + Q'.length = n := by rw [← hln, ← hU', ← hV']; simp only [List.length_append]
    have HG := Lib.hid (And.intro hTT (And.intro hln (And.intro hrow hg))); clear hTT hln hrow hg HO
    have p1 : (m : Int) - i = ((m - i : Nat) : Int) := by omega
    have p2 : (m : Int) + j - i = ((m + j - i : Nat) : Int) := by omega
    rcases Nat.lt_trichotomy i j with h | h | h
    · have hne : ((i : Int) != j) = true := by rw [bne_iff_ne]; omega
      have hgt : ¬ (j : Int) < i := by omega
      have w3 : IntKind.i64.wrap ((j : Int) - i) = ((j - i : Nat) : Int) := by rw [IntWalk.i64_in _ (by omega)]; omega
      have w4 : IntKind.i64.wrap (((m - i : Nat) : Int)) = ((m - i : Nat) : Int) := IntWalk.i64_in _ (by omega)
      have w5 : IntKind.i64.wrap ((m : Int) + j) = m + j := IntWalk.i64_in _ (by omega)
      have w6 : IntKind.i64.wrap (((m + j - i : Nat) : Int)) = ((m + j - i : Nat) : Int) := IntWalk.i64_in _ (by omega)
      have hsp : V' = V'.take (j - i) ++ V'.drop (j - i) := (List.take_append_drop _ _).symm
      have hse := swL_end P' U' (V'.take (j - i)) (V'.drop (j - i)) Q' (by rw [List.length_drop]; omega)
      have hl1 : (V'.take (j - i)).length = j - i := by rw [List.length_take]; omega
      have e1 : P' ++ U' ++ V'.take (j - i) ++ V'.drop (j - i) ++ Q' = P' ++ U' ++ V' ++ Q' := by
        conv => rhs; rw [hsp]
        simp only [List.append_assoc]
      rw [e1, hU', hl1, show P'.length + i + (j - i) = m + j - i by omega, show P'.length = m - i by omega] at hse
      have HS := Lib.hid (swapRangeMK_any wr base (.slice A n c) cv n (m - i) (m + j - i) i _ HG.out.2.1 hn (by omega) (by omega) HG.out.2.2.1)
      rw [hse] at HS
      have hT2 : P' ++ V'.take (j - i) ++ V'.drop (j - i) ++ (U' ++ Q') = T := by
        rw [← HG.out.1]
        conv => rhs; rw [hsp]
        simp only [List.append_assoc]
      have hl2 : (P' ++ V'.drop (j - i) ++ V'.take (j - i) ++ (U' ++ Q')).length = n := by simp only [List.length_append, List.length_drop, hl1]; omega
      have e2 : P' ++ V'.drop (j - i) ++ V'.take (j - i) ++ U' ++ Q' = P' ++ V'.drop (j - i) ++ V'.take (j - i) ++ (U' ++ Q') := by simp only [List.append_assoc]
      rw [e2] at HS
      have hl3 : (V'.drop (j - i)).length = i := by rw [List.length_drop]; omega
      have HX := Lib.hid (And.intro hT2 (And.intro hl2 (And.intro hl1 hl3))); clear hT2 hl2 hl1 hl3 e1 e2 hse hsp
      go_wp2_with fail
      refine HS.out.mono ?_
      rintro e w3' ⟨rfl, hrow2, hg2⟩
      have H3 := Lib.hid (And.intro hrow2 (grown_trans HG.out.2.2.2 hg2)); clear hrow2 hg2 HS
      go_wp2_with fail
      go_roundw
      case rel => exact ⟨i, j - i, P', V'.drop (j - i), V'.take (j - i), U' ++ Q', rfl, by go_num, hi0, by omega, HX.out.2.2.2, HX.out.2.2.1, by omega, HX.out.1, HX.out.2.1, H3.out.1, H3.out.2⟩
      case measure => simp [intOf]; omega
    · subst h
      have hne : ((i : Int) != i) = false := by simp
      have w4 : IntKind.i64.wrap (((m - i : Nat) : Int)) = ((m - i : Nat) : Int) := IntWalk.i64_in _ (by omega)
      have hse := swL_end P' U' [] V' Q' (by omega)
      rw [hU', List.length_nil, Nat.add_zero, show P'.length + i = m from hPi, show P'.length = m - i by omega, List.append_nil, List.append_nil] at hse
      have HS := Lib.hid (swapRangeMK_any wr base (.slice A n c) cv n (m - i) m i _ HG.out.2.1 hn (by omega) (by omega) HG.out.2.2.1)
      rw [hse, HG.out.1] at HS
      clear hse
      go_wp2_with fail
      refine HS.out.mono ?_
      rintro e w3' ⟨rfl, hrow2, hg2⟩
      have H3 := Lib.hid (And.intro hrow2 (grown_trans HG.out.2.2.2 hg2)); clear hrow2 hg2 HS
      go_wp2_with fail
      go_end0
      exact ⟨rfl, H3.out.1, H3.out.2⟩
    · have hne : ((i : Int) != j) = true := by rw [bne_iff_ne]; omega
      have hgt : (j : Int) < i := by omega
      have w3 : IntKind.i64.wrap ((i : Int) - j) = ((i - j : Nat) : Int) := by rw [IntWalk.i64_in _ (by omega)]; omega
      have w4 : IntKind.i64.wrap (((m - i : Nat) : Int)) = ((m - i : Nat) : Int) := IntWalk.i64_in _ (by omega)
      have hsp : U' = U'.take j ++ U'.drop j := (List.take_append_drop _ _).symm
      have hl1 : (U'.take j).length = j := by rw [List.length_take]; omega
      have hl3 : (U'.drop j).length = i - j := by rw [List.length_drop]; omega
      have hse := swL_end P' (U'.take j) (U'.drop j) V' Q' (by omega)
      have e1 : P' ++ U'.take j ++ U'.drop j ++ V' ++ Q' = P' ++ U' ++ V' ++ Q' := by
        conv => rhs; rw [hsp]
        simp only [List.append_assoc]
      rw [e1, hl1, hl3, show P'.length + j + (i - j) = m by omega, show P'.length = m - i by omega] at hse
      have HS := Lib.hid (swapRangeMK_any wr base (.slice A n c) cv n (m - i) m j _ HG.out.2.1 hn (by omega) (by omega) HG.out.2.2.1)
      rw [hse] at HS
      have hT2 : P' ++ V' ++ U'.take j ++ U'.drop j ++ Q' = T := by
        rw [← HG.out.1]
        conv => rhs; rw [hsp]
        simp only [List.append_assoc]
      have hl2 : (P' ++ V' ++ U'.drop j ++ U'.take j ++ Q').length = n := by simp only [List.length_append, hl1, hl3]; omega
      have HX := Lib.hid (And.intro hT2 (And.intro hl2 (And.intro hl1 hl3))); clear hT2 hl2 hl1 hl3 e1 hse hsp
      go_wp2_with fail
      refine HS.out.mono ?_
      rintro e w3' ⟨rfl, hrow2, hg2⟩
      have H3 := Lib.hid (And.intro hrow2 (grown_trans HG.out.2.2.2 hg2)); clear hrow2 hg2 HS
      go_wp2_with fail
      go_roundw
      case rel => exact ⟨i - j, j, P' ++ V', U'.drop j, U'.take j, Q', by go_num, rfl, by omega, hj0, HX.out.2.2.2, HX.out.2.2.1, by rw [List.length_append]; omega, HX.out.1, HX.out.2.1, H3.out.1, H3.out.2⟩
      case measure => simp [intOf]; omega
end Go.Proofs.YtnpehjgnplaabaaGreatDoor
/- A stable sort, plainly: rows of things with the place that each came from. -/
set_option linter.unusedVariables false
set_option linter.unusedSimpArgs false
namespace Sw
section
variable {α : Type}
/-- a comparison that is an order but for ties -/
structure Cmp (c : α → α → Int) : Prop where
  irr : ∀ x, ¬ c x x < 0
  asym : ∀ x y, c x y < 0 → ¬ c y x < 0
  trans : ∀ x y z, ¬ c y x < 0 → ¬ c z y < 0 → ¬ c z x < 0
/-- ahead, ties by the place -/
def Ah (c : α → α → Int) (p q : α × Nat) : Prop := c p.1 q.1 < 0 ∨ (¬ c q.1 p.1 < 0 ∧ p.2 < q.2)
theorem Ah.trans {c : α → α → Int} (C : Cmp c) {p q r : α × Nat} (h : Ah c p q) (k : Ah c q r) : Ah c p r := by
  have tr : ∀ x y z, c x y < 0 → ¬ c z y < 0 → c x z < 0 := fun x y z h1 h2 => by
    by_cases h3 : c x z < 0
    · exact h3
    · exact absurd h1 (C.trans y z x h2 h3)
  have tr2 : ∀ x y z, ¬ c y x < 0 → c y z < 0 → c x z < 0 := fun x y z h1 h2 => by
    by_cases h3 : c x z < 0
    · exact h3
    · exact absurd h2 (C.trans z x y h3 h1)
  rcases h with h | ⟨h1, h2⟩
  · rcases k with k | ⟨k1, k2⟩
    · exact .inl (tr _ _ _ h (C.asym _ _ k))
    · exact .inl (tr _ _ _ h k1)
  · rcases k with k | ⟨k1, k2⟩
    · exact .inl (tr2 _ _ _ h1 k)
    · by_cases h3 : c p.1 r.1 < 0
      · exact .inl h3
      · exact .inr ⟨C.trans _ _ _ h1 k1, Nat.lt_trans h2 k2⟩
theorem Ah.irr {c : α → α → Int} (C : Cmp c) (p : α × Nat) : ¬ Ah c p p := by
  rintro (h | ⟨_, h⟩)
  · exact C.irr _ h
  · exact Nat.lt_irrefl _ h
theorem Ah.of_left {c : α → α → Int} (C : Cmp c) {p q : α × Nat} (h : p.2 < q.2) : Ah c p q ↔ ¬ c q.1 p.1 < 0 := by
  constructor
  · rintro (h1 | ⟨h1, _⟩)
    · exact C.asym _ _ h1
    · exact h1
  · intro h1
    by_cases h2 : c p.1 q.1 < 0
    · exact .inl h2
    · exact .inr ⟨h1, h⟩
def UpS (c : α → α → Int) (l : List (α × Nat)) : Prop := l.Pairwise (Ah c)
/-- all of l came ahead of all of m -/
def Came (l m : List (α × Nat)) : Prop := ∀ p ∈ l, ∀ q ∈ m, p.2 < q.2
theorem UpS.get {c : α → α → Int} {l : List (α × Nat)} (h : UpS c l) {i j : Nat} (hij : i < j) (hj : j < l.length) : Ah c (l[i]'(by omega)) l[j] := List.pairwise_iff_getElem.1 h i j (by omega) hj hij
/-- two halves of two rows, cut where they cross -/
theorem cut_up {c : α → α → Int} (C : Cmp c) {L R : List (α × Nat)} (hL : UpS c L) (hR : UpS c R) (i j : Nat) (hi : i ≤ L.length) (hj : j ≤ R.length)
    (h1 : ∀ (h : 0 < i) (k : j < R.length), Ah c (L[i - 1]'(by omega)) R[j]) (h2 : ∀ (h : i < L.length) (k : 0 < j), Ah c (R[j - 1]'(by omega)) L[i]) :
    (∀ p ∈ L.take i ++ R.take j, ∀ q ∈ L.drop i ++ R.drop j, Ah c p q) := by
  have le : ∀ (l : List (α × Nat)), UpS c l → ∀ (a b : Nat) (ha : a ≤ b) (hb : b < l.length), a = b ∨ Ah c (l[a]'(by omega)) l[b] := fun l hl a b ha hb => by
    rcases Nat.lt_or_eq_of_le ha with h | h
    · exact .inr (hl.get h hb)
    · exact .inl h
  intro p hp q hq
  rcases List.mem_append.1 hp with hp | hp
  · obtain ⟨a, ha, rfl⟩ := List.getElem_of_mem hp
    rw [List.length_take] at ha
    rw [List.getElem_take]
    rcases List.mem_append.1 hq with hq | hq
    · obtain ⟨b, hb, rfl⟩ := List.getElem_of_mem hq
      rw [List.length_drop] at hb
      rw [List.getElem_drop]
      exact hL.get (by omega) (by omega)
    · obtain ⟨b, hb, rfl⟩ := List.getElem_of_mem hq
      rw [List.length_drop] at hb
      rw [List.getElem_drop]
      have hx := h1 (by omega) (by omega)
      have hy : Ah c (L[a]'(by omega)) (R[j]'(by omega)) := by
        rcases le L hL a (i - 1) (by omega) (by omega) with e | e
        · have : L[a]'(by omega) = L[i - 1]'(by omega) := by congr 1
          rw [this]; exact hx
        · exact e.trans C hx
      rcases le R hR j (j + b) (by omega) (by omega) with e | e
      · have : R[j]'(by omega) = R[j + b]'(by omega) := by congr 1
        rw [← this]; exact hy
      · exact hy.trans C e
  · obtain ⟨a, ha, rfl⟩ := List.getElem_of_mem hp
    rw [List.length_take] at ha
    rw [List.getElem_take]
    rcases List.mem_append.1 hq with hq | hq
    · obtain ⟨b, hb, rfl⟩ := List.getElem_of_mem hq
      rw [List.length_drop] at hb
      rw [List.getElem_drop]
      have hx := h2 (by omega) (by omega)
      have hy : Ah c (R[a]'(by omega)) (L[i]'(by omega)) := by
        rcases le R hR a (j - 1) (by omega) (by omega) with e | e
        · have : R[a]'(by omega) = R[j - 1]'(by omega) := by congr 1
          rw [this]; exact hx
        · exact e.trans C hx
      rcases le L hL i (i + b) (by omega) (by omega) with e | e
      · have : L[i]'(by omega) = L[i + b]'(by omega) := by congr 1
        rw [← this]; exact hy
      · exact hy.trans C e
    · obtain ⟨b, hb, rfl⟩ := List.getElem_of_mem hq
      rw [List.length_drop] at hb
      rw [List.getElem_drop]
      exact hR.get (by omega) (by omega)
theorem UpS.app {c : α → α → Int} {l m : List (α × Nat)} (hl : UpS c l) (hm : UpS c m) (h : ∀ p ∈ l, ∀ q ∈ m, Ah c p q) : UpS c (l ++ m) := List.pairwise_append.2 ⟨hl, hm, h⟩
theorem UpS.left {c : α → α → Int} {l m : List (α × Nat)} (h : UpS c (l ++ m)) : UpS c l := (List.pairwise_append.1 h).1
theorem UpS.right {c : α → α → Int} {l m : List (α × Nat)} (h : UpS c (l ++ m)) : UpS c m := (List.pairwise_append.1 h).2.1
/-- of one set of things there is one row that rises -/
theorem UpS.one {c : α → α → Int} (C : Cmp c) : ∀ {l m : List (α × Nat)}, UpS c l → UpS c m → l.Perm m → l = m
  | [], m, _, _, h => by rw [List.nil_perm.1 h]
  | x :: l, [], _, _, h => by have := h.length_eq; simp at this
  | x :: l, y :: m, hl, hm, h => by
    obtain ⟨h1, h2⟩ := List.pairwise_cons.1 hl
    obtain ⟨k1, k2⟩ := List.pairwise_cons.1 hm
    have hxy : x = y := by
      rcases List.mem_cons.1 (h.mem_iff.1 (List.mem_cons_self (a := x))) with e | e
      · exact e
      · rcases List.mem_cons.1 (h.mem_iff.2 (List.mem_cons_self (a := y))) with e' | e'
        · exact e'.symm
        · exact absurd ((k1 x e).trans C (h1 y e')) (Ah.irr C y)
    subst hxy
    rw [UpS.one C h2 k2 ((List.perm_cons x).1 h)]
theorem UpS.ins {c : α → α → Int} {S1 S2 : List (α × Nat)} {x : α × Nat} (h : UpS c (S1 ++ S2)) (h1 : ∀ p ∈ S1, Ah c p x) (h2 : ∀ q ∈ S2, Ah c x q) : UpS c (S1 ++ x :: S2) :=
  List.pairwise_append.2 ⟨h.left, List.pairwise_cons.2 ⟨h2, h.right⟩, fun p hp q hq => by
    rcases List.mem_cons.1 hq with rfl | hq
    · exact h1 p hp
    · exact (List.pairwise_append.1 h).2.2 p hp q hq⟩
theorem UpS.lead {c : α → α → Int} (C : Cmp c) {S0 : List (α × Nat)} {x y : α × Nat} (h : UpS c (S0 ++ [y])) (hy : Ah c y x) : ∀ p ∈ S0 ++ [y], Ah c p x := fun p hp => by
  rcases List.mem_append.1 hp with hp | hp
  · exact ((List.pairwise_append.1 h).2.2 p hp y (by simp)).trans C hy
  · rw [List.mem_singleton.1 hp]; exact hy
theorem ins_perm {β : Type} (S1 S2 T : List β) (x : β) : (S1 ++ x :: S2 ++ T).Perm ((S1 ++ S2) ++ x :: T) := by
  have h1 : (S1 ++ x :: S2 ++ T).Perm (x :: (S1 ++ S2 ++ T)) := by rw [List.append_assoc, List.cons_append, List.append_assoc]; exact List.perm_middle
  exact h1.trans List.perm_middle.symm
theorem ins_round {c : α → α → Int} {S S1 S2 T X : List (α × Nat)} {x : α × Nat} (hS : S1 ++ S2 = S) (hp : (S ++ x :: T).Perm X) (hu : UpS c S) (hc : ∀ p ∈ S, ∀ q ∈ x :: T, p.2 < q.2) (hr : (x :: T).Pairwise fun p q => p.2 < q.2)
    (h1 : ∀ p ∈ S1, Ah c p x) (h2 : ∀ q ∈ S2, Ah c x q) :
    (S1 ++ x :: S2 ++ T).Perm X ∧ UpS c (S1 ++ x :: S2) ∧ (∀ p ∈ S1 ++ x :: S2, ∀ q ∈ T, p.2 < q.2) ∧ (T.Pairwise fun p q => p.2 < q.2) := by
  subst hS
  refine ⟨(ins_perm S1 S2 T x).trans hp, hu.ins h1 h2, fun p hp' q hq => ?_, (List.pairwise_cons.1 hr).2⟩
  rcases List.mem_append.1 hp' with h | h
  · exact hc p (List.mem_append_left _ h) q (List.mem_cons_of_mem _ hq)
  · rcases List.mem_cons.1 h with rfl | h
    · exact (List.pairwise_cons.1 hr).1 q hq
    · exact hc p (List.mem_append_right _ h) q (List.mem_cons_of_mem _ hq)
theorem UpS.put {c : α → α → Int} (C : Cmp c) {R : List (α × Nat)} {x : α × Nat} (h : UpS c R) (k : Nat) (hkR : k ≤ R.length) (h1 : ∀ z, 0 < k → R[k - 1]? = some z → Ah c z x) (h2 : ∀ z, R[k]? = some z → Ah c x z) : UpS c (R.take k ++ x :: R.drop k) := by
  refine UpS.ins (by rw [List.take_append_drop]; exact h) (fun p hp => ?_) (fun q hq => ?_)
  · obtain ⟨t, ht, rfl⟩ := List.getElem_of_mem hp
    rw [List.length_take] at ht
    rw [List.getElem_take]
    have hk : k - 1 < R.length ∨ R.length ≤ k - 1 := by omega
    rcases Nat.lt_or_ge t (k - 1) with h3 | h3
    · exact (h.get h3 (by omega)).trans C (h1 _ (by omega) (List.getElem?_eq_getElem (by omega)))
    · have e : t = k - 1 := by omega
      exact h1 _ (by omega) (by rw [← e]; exact List.getElem?_eq_getElem (by omega))
  · obtain ⟨t, ht, rfl⟩ := List.getElem_of_mem hq
    rw [List.length_drop] at ht
    rw [List.getElem_drop]
    have hk := h2 _ (List.getElem?_eq_getElem (by omega))
    rcases Nat.eq_zero_or_pos t with rfl | h3
    · exact hk
    · exact hk.trans C (h.get (by omega) (by omega))
theorem put_perm {β : Type} (R : List β) (x : β) (k : Nat) : (R.take k ++ x :: R.drop k).Perm (x :: R) := by
  have := List.perm_middle (a := x) (l₁ := R.take k) (l₂ := R.drop k)
  rwa [List.take_append_drop] at this
end
end Sw

/- A region that draws its order, its tail forced: the head by the quiet walk (guards and rows' loads too). Over any program. -/
set_option linter.unusedVariables false
set_option linter.unusedSimpArgs false
namespace Sw
open Go
theorem still_of_quietL {P : Program} {ops : Array Oper} {W : World} {Q : Act → Prop} : ∀ (l : List Oper) (a : Act), wpQuiet P ops (fun w' => ∃ _ : Unit, w' = W) Q l a → wpStill P ops W Q l a
  | [], a, h => h
  | o :: l, a, h => by
    simp only [wpQuiet, wpStill] at *
    split
    · rename_i hw
      rw [if_pos hw] at h
      obtain ⟨v, h1, h2⟩ := h
      have h3 := h1 W ⟨(), rfl⟩
      have h4 := still_of_quietL l _ h2
      unfold Oper.quietAt at h3
      unfold Oper.still
      generalize (execOp a.eval o).run P W = r at *
      cases r with
      | ok n w' =>
        cases n <;> simp only [Oper.quietUpon] at h3 <;> simp only [Oper.stillUpon]
        case value u => exact ⟨h3.1, by rw [h3.2]; exact h4⟩
        case skip => exact ⟨h3.1, by rw [← h3.2]; exact h4⟩
        case enter f args => exact ⟨h3.1, v, h3.2.mono fun e w'' he => ⟨he.1, by obtain ⟨_, h⟩ := he.2; exact h⟩, h4⟩
      | halt x w' => simp only [Oper.quietUpon] at h3
    · rename_i hw
      rw [if_neg hw] at h
      exact still_of_quietL l _ h
theorem region_tail {P : Program} {id : Nat} {Q : Exit → Act → World → Prop} {a : Act} {w : World} {l : List Oper} (n : Nat) (hm : P.follows .mixedOrders = true) (hB : Region.lexTailB .any l.toArray n = true) (W : World) (hW : w.drew = W)
    (h : wpQuiet P l.toArray (fun w' => ∃ _ : Unit, w' = W) (fun a' => wpList P l.toArray Q (l.drop n) a' W) (l.take n) a) : (Code.region id l.toArray true).wp P Q a w := by
  subst hW
  exact wp_region_still_tail n hm hB (still_of_quietL _ _ h)
end Sw
/- slices.SortStableFunc at rows of api.Mark: one block by insertion. -/
set_option linter.unusedVariables false
set_option linter.unusedSimpArgs false
namespace Go.Proofs.YtnpehjgnplaabaaGreatDoor
open Go Go.RowKit
open Sw
abbrev eDMK := ({ s : ByteArray // s.size ≤ 90000 } × Pr) × Nat
def RowDMK (w : World) (base : Nat) (v : Value) (n : Nat) (l : List eDMK) : Prop := l.length = n ∧ w.ownsRow base 63 6 v n ((l.map Prod.fst).flatMap eCMK)
theorem RowDMK.kept {w w' : World} {base n : Nat} {v : Value} {l : List eDMK} (h : RowDMK w base v n l) (hb : Below w.heap.size w w') : RowDMK w' base v n l := ⟨h.1, own_kept h.2 hb⟩
theorem RowDMK.drew {w : World} {base n : Nat} {v : Value} {l : List eDMK} (h : RowDMK w base v n l) : RowDMK w.drew base v n l := ⟨h.1, own_drew h.2⟩
theorem RowDMK.form {w : World} {base n c : Nat} {A : Option Addr} {l : List eDMK} (h : RowDMK w base (.slice A n c) n l) (hn : 0 < n) : ∃ g, A = some ⟨g, 0, none⟩ ∧ base ≤ g ∧ ∃ cur, Blk w g 63 cur ∧ g < w.heap.size := by
  obtain ⟨g, cap, cur, hA, hbg, hB, hnc, hcm, hcs, htk⟩ := own_form h.2 hn
  obtain ⟨rfl, rfl⟩ : A = some ⟨g, 0, none⟩ ∧ c = cap := by injection hA with e1 e2 e3; exact ⟨e1, e3⟩
  exact ⟨g, rfl, hbg, cur, hB, by
    unfold Blk at hB
    exact (Array.getElem?_eq_some_iff.1 hB).1⟩
theorem RowDMK.cell {w : World} {base n c g : Nat} {l : List eDMK} (h : RowDMK w base (.slice (some ⟨g, 0, none⟩) n c) n l) (m : Nat) (x : eDMK) (hm : l[m]? = some x) (q : Nat) (hq : q < 6) : w.cell? ⟨g, m * 6 + q, none⟩ = (eCMK x.1)[q]? := by
  obtain ⟨hml, hmx⟩ := List.getElem?_eq_some_iff.1 hm
  have hmn : m < n := by rw [← h.1]; exact hml
  obtain ⟨g', cap, cur, hA, hbg, hB, hnc, hcm, hcs, htk⟩ := own_form h.2 (by omega)
  obtain ⟨rfl, rfl⟩ : g = g' ∧ c = cap := by
    injection hA with e1 e2 e3
    exact ⟨congrArg Addr.block (Option.some.inj e1), e3⟩
  have h1 := flat_get eCMK_len (l.map Prod.fst) m (by rw [List.length_map]; exact hml) q hq
  have h2 : m * 6 + q < n * 6 := by have : (m + 1) * 6 ≤ n * 6 := Nat.mul_le_mul_right _ hmn; omega
  rw [hB.cell, ← Array.getElem?_toList]
  rw [List.getElem_map, hmx] at h1
  rw [← h1, ← htk, List.getElem?_take, if_pos h2]
theorem RowDMK.swap {w a : World} {base n c g : Nat} {l : List eDMK} (h : RowDMK w base (.slice (some ⟨g, 0, none⟩) n c) n l) (i j : Nat) (x y : eDMK) (hx : l[i]? = some x) (hy : l[j]? = some y) (hB : Below base a w) (hbg : base ≤ g) (hs : base ≤ w.heap.size) :
    RowDMK ((w.setCells g (i * 6) (eCMK y.1)).setCells g (j * 6) (eCMK x.1)) base (.slice (some ⟨g, 0, none⟩) n c) n ((l.set i y).set j x) ∧ Below base a ((w.setCells g (i * 6) (eCMK y.1)).setCells g (j * 6) (eCMK x.1)) := by
  obtain ⟨hil, hix⟩ := List.getElem?_eq_some_iff.1 hx
  obtain ⟨hjl, hjy⟩ := List.getElem?_eq_some_iff.1 hy
  have hin : i < n := by rw [← h.1]; exact hil
  have hjn : j < n := by rw [← h.1]; exact hjl
  have m1 : (i + 1) * 6 ≤ n * 6 := Nat.mul_le_mul_right _ hin
  have m2 : (j + 1) * 6 ≤ n * 6 := Nat.mul_le_mul_right _ hjn
  have h1 := own_setCells (eCMK y.1) (i * 6) w _ h.2 (by rw [eCMK_len]; omega)
  have f1 := flat_put eCMK_len (l.map Prod.fst) i (by rw [List.length_map]; exact hil) y.1 0 (eCMK y.1) (by rw [eCMK_len]; omega) (by simp [eCMK_len])
  simp only [Nat.add_zero] at f1
  rw [f1] at h1
  have h2 := own_setCells (eCMK x.1) (j * 6) _ _ h1 (by rw [eCMK_len]; omega)
  have f2 := flat_put eCMK_len ((l.map Prod.fst).set i y.1) j (by rw [List.length_set, List.length_map]; exact hjl) x.1 0 (eCMK x.1) (by rw [eCMK_len]; omega) (by simp [eCMK_len])
  simp only [Nat.add_zero] at f2
  rw [f2] at h2
  refine ⟨⟨by rw [List.length_set, List.length_set]; exact h.1, ?_⟩, ?_⟩
  · rw [List.map_set, List.map_set]; exact h2
  · exact own_below h.2 hB (grown_setCells (eCMK x.1) (j * 6) _ (grown_setCells (eCMK y.1) (i * 6) w (grown_refl _ _))) (Nat.le_refl _) hs
theorem swap_next {β : Type} (P Q : List β) (x y : β) : ((P ++ y :: x :: Q).set (P.length + 1) y).set P.length x = P ++ x :: y :: Q := by
  simp [List.set_append]
theorem mid_get {β : Type} (P Q : List β) (x : β) : (P ++ x :: Q)[P.length]? = some x := by simp
theorem mid_get1 {β : Type} (P Q : List β) (x y : β) : (P ++ y :: x :: Q)[P.length + 1]? = some x := by
  rw [List.getElem?_append_right (by omega)]; simp
set_option maxRecDepth 100000 in
set_option maxHeartbeats 8000000 in
theorem insertMK_any (cmp : { s : ByteArray // s.size ≤ 90000 } × Pr → { s : ByteArray // s.size ≤ 90000 } × Pr → Int) (HC : Cmp cmp) (hcall : ∀ W x y, Calls Tryz.prog 89 #[.agg (eCMK x).toArray, .agg (eCMK y).toArray] W fun e w' => e = .returned (.int .i64 (cmp x y)) ∧ Below W.heap.size W w')
    (w : World) (base : Nat) (A : Option Addr) (c : Nat) (n a b : Nat) (P X Q : List eDMK) (hn : n ≤ 1000000) (hP : P.length = a) (hX : a + X.length = b) (hrise : X.Pairwise fun p q => p.2 < q.2) (hbs : base ≤ w.heap.size)
    (hrow : RowDMK w base (.slice A n c) n (P ++ X ++ Q)) :
    Calls Tryz.prog 220 #[.slice A n c, .int .i64 a, .int .i64 b, .func (.func 89) #[] #[]] w fun e w' => e = .returned (.tuple #[]) ∧ ∃ Y : List eDMK, Y.Perm X ∧ UpS cmp Y ∧ RowDMK w' base (.slice A n c) n (P ++ Y ++ Q) ∧ Below base w w' := by
  have hlen : a + X.length + Q.length = n := by rw [← hrow.1, ← hP]; simp only [List.length_append]
  have HR0 := Lib.hid (And.intro hrow hrise)
  have HCC := Lib.hid hcall
  clear hrow hrise hcall
  have w0 : IntKind.i64.wrap ((a : Int) + 1) = a + 1 := IntWalk.i64_in _ (by omega)
  have hsz0 := hbs
  go_enter Tryz.func220, Tryz.ntmps220
  go_wp2_with fail
  go_loopw [8] (fun iv wr => ∃ (o : Nat) (S T : List eDMK), iv = .int .i64 o ∧ a + 1 ≤ o ∧ (S ++ T).Perm X ∧ UpS cmp S ∧ a + S.length = min o b ∧ (∀ p ∈ S, ∀ q ∈ T, p.2 < q.2) ∧ (T.Pairwise fun p q => p.2 < q.2) ∧ RowDMK wr base (.slice A n c) n (P ++ S ++ T ++ Q) ∧ Below base w wr ∧ base ≤ wr.heap.size) (fun iv _ => b - (intOf iv).toNat)
  case atStart =>
    refine ⟨a + 1, X.take 1, X.drop 1, by go_num, Nat.le_refl _, by rw [List.take_append_drop], ?_, ?_, ?_, ?_, ?_, Below.refl _ _, hbs⟩
    · rcases X with _ | ⟨x, X⟩
      · exact List.Pairwise.nil
      · exact List.pairwise_singleton _ _
    · rw [List.length_take]; omega
    · exact (List.pairwise_append.1 (by rw [List.take_append_drop]; exact HR0.out.2)).2.2
    · exact HR0.out.2.sublist (List.drop_sublist _ _)
    · have : P ++ X.take 1 ++ X.drop 1 ++ Q = P ++ X ++ Q := by rw [List.append_assoc P, List.take_append_drop]
      rw [this]; exact HR0.out.1
  case round =>
    obtain ⟨o, S, T, rfl, hao, hperm, hup, hSl, hcame, hTr, hrow, hbl, hbsr⟩ := hrel
    have hpl := hperm.length_eq
    rw [List.length_append] at hpl
    have HG := Lib.hid (And.intro hperm (And.intro hup (And.intro hcame (And.intro hTr (And.intro hrow hbl))))); clear hperm hup hcame hTr hrow hbl
    by_cases hob : o < b
    · have hob1 : (o : Int) < b := by omega
      obtain ⟨x, T', rfl⟩ : ∃ x T', T = x :: T' := by
        rcases T with _ | ⟨x, T'⟩
        · simp at hpl; omega
        · exact ⟨x, T', rfl⟩
      have w1 : IntKind.i64.wrap ((o : Int) + 1) = o + 1 := IntWalk.i64_in _ (by omega)
      go_wp2_with fail
      go_loopw [9] (fun jv wr2 => ∃ (i : Nat) (S1 S2 : List eDMK), jv = .int .i64 i ∧ S1 ++ S2 = S ∧ a + S1.length = i ∧ (∀ q ∈ S2, Ah cmp x q) ∧ RowDMK wr2 base (.slice A n c) n (P ++ S1 ++ x :: (S2 ++ T' ++ Q)) ∧ Below base w wr2 ∧ base ≤ wr2.heap.size) (fun jv _ => (intOf jv).toNat)
      case atStart =>
        refine ⟨o, S, [], rfl, List.append_nil _, by omega, (fun q hq => by cases hq), ?_, HG.out.2.2.2.2.2, hbsr⟩
        have : P ++ S ++ x :: ([] ++ T' ++ Q) = P ++ S ++ (x :: T') ++ Q := by simp
        rw [this]; exact HG.out.2.2.2.2.1
      case round =>
        obtain ⟨i, S1, S2, rfl, hSS, hSi, hAh, hrow, hbl, hbsr2⟩ := hrel
        have hS12 : S1.length + S2.length = S.length := by rw [← hSS, List.length_append]
        have H2 := Lib.hid (And.intro hSS (And.intro hAh (And.intro hrow hbl))); clear hSS hAh hrow hbl
        by_cases hia : a < i
        · have hia1 : (a : Int) < i := by omega
          obtain ⟨S0, y, hS0⟩ : ∃ S0 y, S1 = S0 ++ [y] := ⟨S1.dropLast, S1.getLast (by rintro rfl; simp at hSi; omega), (List.dropLast_concat_getLast _).symm⟩
          subst hS0
          rw [List.length_append] at hSi hS12
          simp only [List.length_cons, List.length_nil] at hSi hS12
          obtain ⟨j, hj⟩ : ∃ j : Nat, i = j + 1 := ⟨i - 1, by omega⟩
          have hjP : (P ++ S0).length = j := by rw [List.length_append]; omega
          have hform : P ++ (S0 ++ [y]) ++ x :: (S2 ++ T' ++ Q) = (P ++ S0) ++ y :: x :: (S2 ++ T' ++ Q) := by simp
          obtain ⟨g, rfl, hbg, cur, hB, hgs⟩ := H2.out.2.2.1.form (by omega)
          have hrowf := H2.out.2.2.1
          rw [hform] at hrowf
          have hgi : ((P ++ S0) ++ y :: x :: (S2 ++ T' ++ Q))[i]? = some x := by rw [hj, ← hjP]; exact mid_get1 _ _ _ _
          have hgj : ((P ++ S0) ++ y :: x :: (S2 ++ T' ++ Q))[j]? = some y := by rw [← hjP]; exact mid_get _ _ _
          obtain ⟨w2, hw2⟩ : ∃ w2, wr.drew = w2 := ⟨_, rfl⟩
          have hrow2 := hrowf.drew
          rw [hw2] at hrow2
          have hci := hrow2.cell i x hgi
          have hcj := hrow2.cell j y hgj
          have a0 : w2.cell? ⟨g, i * 6, none⟩ = _ := hci 0 (by omega)
          have a1 : w2.cell? ⟨g, i * 6 + 1, none⟩ = _ := hci 1 (by omega)
          have a2 : w2.cell? ⟨g, i * 6 + 2, none⟩ = _ := hci 2 (by omega)
          have a3 : w2.cell? ⟨g, i * 6 + 3, none⟩ = _ := hci 3 (by omega)
          have a4 : w2.cell? ⟨g, i * 6 + 4, none⟩ = _ := hci 4 (by omega)
          have a5 : w2.cell? ⟨g, i * 6 + 5, none⟩ = _ := hci 5 (by omega)
          simp only [eCMK, List.getElem?_cons_succ, List.getElem?_cons_zero] at a0 a1 a2 a3 a4 a5
          have b0 : w2.cell? ⟨g, j * 6, none⟩ = _ := hcj 0 (by omega)
          have b1 : w2.cell? ⟨g, j * 6 + 1, none⟩ = _ := hcj 1 (by omega)
          have b2 : w2.cell? ⟨g, j * 6 + 2, none⟩ = _ := hcj 2 (by omega)
          have b3 : w2.cell? ⟨g, j * 6 + 3, none⟩ = _ := hcj 3 (by omega)
          have b4 : w2.cell? ⟨g, j * 6 + 4, none⟩ = _ := hcj 4 (by omega)
          have b5 : w2.cell? ⟨g, j * 6 + 5, none⟩ = _ := hcj 5 (by omega)
          simp only [eCMK, List.getElem?_cons_succ, List.getElem?_cons_zero] at b0 b1 b2 b3 b4 b5
          clear hci hcj
          have HCL := Lib.hid (HCC.out w2 x.1 y.1)
          have HX := Lib.hid (And.intro hrow2 (And.intro hgi (And.intro hgj hform))); clear hrow2 hrowf hgi hgj hform
          have wj : IntKind.i64.wrap ((i : Int) - 1) = j := by rw [IntWalk.i64_in _ (by omega)]; omega
          have q1 : (i : Int) < n := by omega
          have q2 : (j : Int) < n := by omega
          have HJ := Lib.hid (And.intro hj hjP); clear hj hjP
          have hgd : decide ((a : Int) < i) = true := decide_eq_true hia1
          go_wp2_with fail
          refine region_tail 14 (by kernel_rfl) (by kernel_rfl) w2 hw2 ?_
          simp only [List.take_succ_cons, List.take_zero, List.drop_succ_cons, List.drop_zero]
          repeat (go_big_quiet_step (fail))
          refine wpQuiet_nil ?_
          go_wp2_with fail
          refine HCL.out.mono ?_
          rintro e w3 ⟨rfl, hb3⟩
          have hrow3 := HX.out.1.kept hb3
          have hbl3 : Below base w w3 := by
            have h1 : Below base w w2 := by rw [← hw2]; exact H2.out.2.2.2.drew
            exact h1.trans (hb3.mono (by rw [← hw2]; exact hbsr2))
          have hs3 : base ≤ w3.heap.size := Nat.le_trans hbsr2 (by have := hb3.size; rw [← hw2] at this; exact this)
          have H3 := Lib.hid (And.intro hrow3 (And.intro hbl3 hs3)); clear hb3 hbl3 hrow3 HCL
          by_cases hcx : cmp x.1 y.1 < 0
          · have hcd : decide (cmp x.1 y.1 < 0) = true := decide_eq_true hcx
            clear a0 b0 a1 b1 a2 b2 a3 b3 a4 b4 a5 b5
            go_wp2_with fail
            obtain ⟨g', hge, hbg3, cur3, hB, hgs3⟩ := H3.out.1.form (by omega)
            obtain rfl : g = g' := congrArg Addr.block (Option.some.inj hge)
            have hci := H3.out.1.cell i x HX.out.2.1
            have hcj := H3.out.1.cell j y HX.out.2.2.1
            have a0 : w3.cell? ⟨g, i * 6, none⟩ = _ := hci 0 (by omega)
            have a1 : w3.cell? ⟨g, i * 6 + 1, none⟩ = _ := hci 1 (by omega)
            have a2 : w3.cell? ⟨g, i * 6 + 2, none⟩ = _ := hci 2 (by omega)
            have a3 : w3.cell? ⟨g, i * 6 + 3, none⟩ = _ := hci 3 (by omega)
            have a4 : w3.cell? ⟨g, i * 6 + 4, none⟩ = _ := hci 4 (by omega)
            have a5 : w3.cell? ⟨g, i * 6 + 5, none⟩ = _ := hci 5 (by omega)
            simp only [eCMK, List.getElem?_cons_succ, List.getElem?_cons_zero] at a0 a1 a2 a3 a4 a5
            have b0 : w3.cell? ⟨g, j * 6, none⟩ = _ := hcj 0 (by omega)
            have b1 : w3.cell? ⟨g, j * 6 + 1, none⟩ = _ := hcj 1 (by omega)
            have b2 : w3.cell? ⟨g, j * 6 + 2, none⟩ = _ := hcj 2 (by omega)
            have b3 : w3.cell? ⟨g, j * 6 + 3, none⟩ = _ := hcj 3 (by omega)
            have b4 : w3.cell? ⟨g, j * 6 + 4, none⟩ = _ := hcj 4 (by omega)
            have b5 : w3.cell? ⟨g, j * 6 + 5, none⟩ = _ := hcj 5 (by omega)
            simp only [eCMK, List.getElem?_cons_succ, List.getElem?_cons_zero] at b0 b1 b2 b3 b4 b5
            have fa0 := hB.frozen (i * 6)
            have fa1 := hB.frozen (i * 6 + 1)
            have fa2 := hB.frozen (i * 6 + 2)
            have fa3 := hB.frozen (i * 6 + 3)
            have fa4 := hB.frozen (i * 6 + 4)
            have fa5 := hB.frozen (i * 6 + 5)
            have fb0 := hB.frozen (j * 6)
            have fb1 := hB.frozen (j * 6 + 1)
            have fb2 := hB.frozen (j * 6 + 2)
            have fb3 := hB.frozen (j * 6 + 3)
            have fb4 := hB.frozen (j * 6 + 4)
            have fb5 := hB.frozen (j * 6 + 5)
            have HSW := Lib.hid (H3.out.1.swap i j x y HX.out.2.1 HX.out.2.2.1 H3.out.2.1 hbg H3.out.2.2)
            clear hci hcj hB hge
            have q3 : i ≠ j := by have := HJ.out.1; omega
            have hszs : base ≤ ((w3.setCells g (i * 6) (eCMK y.1)).setCells g (j * 6) (eCMK x.1)).heap.size := by have := (grown_setCells (eCMK x.1) (j * 6) _ (grown_setCells (eCMK y.1) (i * 6) w3 (grown_refl w3 (some g)))).size; exact Nat.le_trans H3.out.2.2 this
            have HZ := Lib.hid hszs; clear hszs
            go_region
            all_goals
              go_wp2_with fail
              go_roundw
              case rel =>
                have HSV := HSW.out
                simp only [eCMK, World.setCells, Nat.add_assoc, Nat.reduceAdd] at HSV
                refine ⟨j, S0, y :: S2, by go_num, by have := H2.out.1; simpa using this, by have := HJ.out.1; omega, fun q hq => ?_, ?_, ?_, ?_⟩
                · rcases List.mem_cons.1 hq with rfl | hq
                  · exact .inl hcx
                  · exact H2.out.2.1 q hq
                · have h1 := HSV.1
                  have hls : (((P ++ S0) ++ y :: x :: (S2 ++ T' ++ Q)).set i y).set j x = P ++ S0 ++ x :: y :: (S2 ++ T' ++ Q) := by rw [HJ.out.1, ← HJ.out.2]; exact swap_next _ _ _ _
                  rw [hls] at h1
                  have e1 : P ++ S0 ++ x :: y :: (S2 ++ T' ++ Q) = P ++ S0 ++ x :: (y :: S2 ++ T' ++ Q) := rfl
                  rw [e1] at h1
                  first | exact h1.drew | exact h1
                · first | exact HSV.2.drew | exact HSV.2
                · have hzz := H3.out.2.2
                  simpa using hzz
              case measure => simp [intOf]; have := HJ.out.1; omega
          · have hcd : decide (cmp x.1 y.1 < 0) = false := decide_eq_false hcx
            have HIR := Lib.hid (ins_round H2.out.1 HG.out.1 HG.out.2.1 HG.out.2.2.1 HG.out.2.2.2.1 (UpS.lead HC (by have := HG.out.2.1; rw [← H2.out.1] at this; exact this.left) ((Ah.of_left HC (HG.out.2.2.1 y (by rw [← H2.out.1]; simp) x (List.mem_cons_self ..))).2 hcx)) H2.out.2.1)
            go_wp2_with fail
            go_roundw
            case rel =>
              refine ⟨o + 1, (S0 ++ [y]) ++ x :: S2, T', by go_num, by omega, HIR.out.1, HIR.out.2.1, ?_, HIR.out.2.2.1, HIR.out.2.2.2, ?_, H3.out.2.1, H3.out.2.2⟩
              · simp only [List.length_append, List.length_cons, List.length_nil]; omega
              · have h1 := H3.out.1
                rw [← HX.out.2.2.2] at h1
                have e1 : P ++ (S0 ++ [y]) ++ x :: (S2 ++ T' ++ Q) = P ++ ((S0 ++ [y]) ++ x :: S2) ++ T' ++ Q := by simp
                rw [e1] at h1
                exact h1
            case measure => simp [intOf]; omega
        · have hgd : decide ((a : Int) < i) = false := decide_eq_false (by omega)
          obtain rfl : S1 = [] := List.eq_nil_of_length_eq_zero (by omega)
          have HIR := Lib.hid (ins_round H2.out.1 HG.out.1 HG.out.2.1 HG.out.2.2.1 HG.out.2.2.2.1 (fun p hp => by cases hp) H2.out.2.1)
          go_wp2_with fail
          go_quiet (fail)
          go_wp2_with fail
          go_roundw
          case rel =>
            refine ⟨o + 1, [] ++ x :: S2, T', by go_num, by omega, HIR.out.1, HIR.out.2.1, ?_, HIR.out.2.2.1, HIR.out.2.2.2, ?_, below_drewN H2.out.2.2.2 _, hbsr2⟩
            · simp only [List.length_append, List.length_cons, List.length_nil]; simp only [List.length_nil] at hS12; omega
            · have h1 := H2.out.2.2.1
              have e1 : P ++ [] ++ x :: (S2 ++ T' ++ Q) = P ++ ([] ++ x :: S2) ++ T' ++ Q := by simp
              rw [e1] at h1
              exact h1.kept (below_drewN (Below.refl _ _) _)
          case measure => simp [intOf]; omega
    · obtain rfl : T = [] := by
        rcases T with _ | ⟨x, T'⟩
        · rfl
        · simp at hpl; omega
      go_wp2_with fail
      go_end0
      exact ⟨rfl, S, by have := HG.out.1; rwa [List.append_nil] at this, HG.out.2.1, by have := HG.out.2.2.2.2.1; rwa [List.append_nil] at this, HG.out.2.2.2.2.2⟩
end Go.Proofs.YtnpehjgnplaabaaGreatDoor
