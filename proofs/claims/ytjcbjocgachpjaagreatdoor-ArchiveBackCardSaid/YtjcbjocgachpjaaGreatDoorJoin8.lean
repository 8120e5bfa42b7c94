/- Several texts, joined for the limit of sixty files; each one opens with its own comment. -/
import Derived.Test.YtjcbjocgachpjaaGreatDoorJoin7
import Derived.Test.YtjcbjocgachpjaaGreatDoorJoin1
import Derived.Test.YtjcbjocgachpjaaGreatDoorRows
/- Contracts of name.Order, name.Under, and of the reference's Before. -/
set_option linter.unusedVariables false
set_option linter.unusedSimpArgs false
namespace Sw
/-- is a text among texts? -/
def inS (l : List ByteArray) (x : ByteArray) : Bool := l.any fun y => decide (y = x)
theorem inS_iff (l : List ByteArray) (x : ByteArray) : inS l x = true ↔ x ∈ l := by
  unfold inS
  rw [List.any_eq_true]
  constructor
  · rintro ⟨y, hy, h⟩
    have := of_decide_eq_true h
    subst this
    exact hy
  · exact fun h => ⟨x, h, decide_eq_true rfl⟩
end Sw
namespace Go.Proofs.YtjcbjocgachpjaaGreatDoor
open Go Go.RowKit
open Sw
open Go.Lib (compareBytes)
theorem strCmp_any (w : World) (x y : ByteArray) :
    Calls Tryz.prog 73 #[.string x, .string y] w fun e w' => e = .returned (.int .i64 (compareBytes x.data.toList y.data.toList)) ∧ w = w' :=
  (Tryz.strings_Compare x y w).mono fun e w' h => ⟨h.1, h.2.symm⟩
set_option maxRecDepth 100000 in
set_option maxHeartbeats 2000000 in
theorem order_any (w : World) (p q : ByteArray) (hp : p.size ≤ 100000) (hq : q.size ≤ 100000) :
    Calls Tryz.prog 38 #[.string p, .string q] w fun e w' => e = .returned (.int .i64 (ordS p q)) ∧ Below w.heap.size w w' := by
  have HP := Lib.hid (parts_any w p hp)
  have HQ := Lib.hid (fun W => parts_any W q hq)
  have ho : ordS p q = if (partsS p).length = 0 ∧ (partsS q).length = 0 then compareBytes p.data.toList q.data.toList else cL (partsS p) (partsS q) := rfl
  obtain ⟨N, hN⟩ : ∃ N, (partsS p).length = N := ⟨_, rfl⟩
  obtain ⟨M, hM⟩ : ∃ M, (partsS q).length = M := ⟨_, rfl⟩
  rw [hN, hM] at ho
  have hc1 := fun W => strCmp_any W p q
  have hc2 := fun W v1 v2 h1 h2 => slCmp_any W v1 v2 (partsS p) (partsS q) h1 h2
  generalize ordS p q = R at *
  generalize compareBytes p.data.toList q.data.toList = C at *
  generalize cL (partsS p) (partsS q) = D at *
  have HC1 := Lib.hid hc1; clear hc1
  have HC2 := Lib.hid hc2; clear hc2
  have HN := Lib.hid (And.intro hN hM); clear hN hM
  go_enter Tryz.func38, Tryz.ntmps38
  go_wp2_with fail
  refine HP.out.mono ?_
  rintro e w1 ⟨v1, rfl, s1, hb1⟩
  go_wp2_with fail
  refine (HQ.out _).mono ?_
  rintro e w2 ⟨v2, rfl, s2, hb2⟩
  have hbw := hb1.trans (hb2.mono hb1.size)
  have HS := Lib.hid (And.intro (s1.below hb2 (Nat.le_refl _)) s2)
  obtain ⟨A1, c1, rfl, hc1, hm1, _⟩ := s1
  obtain ⟨A2, c2, rfl, hc2, hm2, _⟩ := s2
  rw [HN.out.1] at hc1 HS ⊢
  rw [HN.out.2] at hc2 HS ⊢
  unfold maxLen at hm1 hm2
  by_cases h1 : N = 0
  · by_cases h2 : M = 0
    · rw [if_pos ⟨h1, h2⟩] at ho
      subst ho
      have n1 : ((N : Int) == 0) = true := by rw [beq_iff_eq]; omega
      have n2 : ((M : Int) == 0) = true := by rw [beq_iff_eq]; omega
      clear h1 h2
      go_wp2_with fail
      refine (HC1.out _).mono ?_
      rintro e w3 ⟨rfl, rfl⟩
      go_wp2_with fail
      go_ret
      exact ⟨rfl, hbw⟩
    · rw [if_neg (fun e => h2 e.2)] at ho
      subst ho
      have n1 : ((N : Int) == 0) = true := by rw [beq_iff_eq]; omega
      have n2 : ((M : Int) == 0) = false := by rw [beq_eq_false_iff_ne]; omega
      clear h1 h2
      go_wp2_with fail
      refine (HC2.out _ _ _ HS.out.1 HS.out.2).mono ?_
      rintro e w3 ⟨rfl, rfl⟩
      go_wp2_with fail
      go_ret
      exact ⟨rfl, hbw⟩
  · rw [if_neg (fun e => h1 e.1)] at ho
    subst ho
    have n1 : ((N : Int) == 0) = false := by rw [beq_eq_false_iff_ne]; omega
    clear h1
    go_wp2_with fail
    refine (HC2.out _ _ _ HS.out.1 HS.out.2).mono ?_
    rintro e w3 ⟨rfl, rfl⟩
    go_wp2_with fail
    go_ret
    exact ⟨rfl, hbw⟩
/-- slices.Contains at texts -/
theorem cont_any (w : World) (v : Value) (l : List ByteArray) (x : ByteArray) (h : SlV w 1 bE v l) :
    Calls Tryz.prog 145 #[v, .string x] w fun e w' => e = .returned (.bool (inS l x)) ∧ w = w' := by
  obtain ⟨A, c, rfl, hc, hm, hs⟩ := h
  by_cases h0 : l.length = 0
  · have hl : l = [] := List.length_eq_zero_iff.1 h0
    subst hl
    have hi : Calls Tryz.prog 168 #[.slice A 0 c, .string x] w fun e w' => e = .returned (.int .i64 (-1)) ∧ w = w' := by
      go_enter Tryz.func168, Tryz.ntmps168
      go_wp2_with fail
      go_loopw [4, 5, 8] (fun r _ iv wr => r = .int .i64 0 ∧ iv = .int .i64 0 ∧ w = wr) (fun _ _ _ _ => 0)
      case atStart => exact ⟨rfl, rfl, rfl⟩
      case round =>
        obtain ⟨rfl, rfl, rfl⟩ := hrel
        go_wp2_with fail
        go_ret
        exact ⟨rfl, rfl⟩
    have HI := Lib.hid hi; clear hi
    go_enter Tryz.func145, Tryz.ntmps145
    go_wp2_with fail
    refine HI.out.mono ?_
    rintro e w1 ⟨rfl, rfl⟩
    go_wp2_with fail
    go_ret
    exact ⟨by simp [inS], rfl⟩
  · obtain ⟨b, o, rfl, _, hcs⟩ := hs (by omega)
    refine (Tryz.slices_Contains_string b o l.length c l x w (Nat.le_refl _) (by unfold maxLen at hm; omega) (fun j hj => by
      have := hcs j hj 0 (by omega)
      simp [bE] at this
      rw [this, List.getD_eq_getElem?_getD, List.getElem?_eq_getElem hj]
      rfl)).mono ?_
    rintro e w' ⟨rfl, rfl⟩
    refine ⟨?_, rfl⟩
    rw [List.take_of_length_le (Nat.le_refl _)]
    have hiff := Go.Lib.containsS_iff l x
    have hiff2 := inS_iff l x
    congr 2
    cases hd : Go.Lib.containsS l x with
    | true => rw [hiff2.2 (hiff.1 hd)]
    | false =>
      cases hi : inS l x with
      | false => rfl
      | true => rw [hiff.2 (hiff2.1 hi)] at hd; cases hd
set_option maxRecDepth 100000 in
set_option maxHeartbeats 2000000 in
theorem under_any (w : World) (p q : ByteArray) (hq : q.size ≤ 90000) :
    Calls Tryz.prog 114 #[.string p, .string q] w fun e w' => e = .returned (.bool (inS (upsS q) p)) ∧ Below w.heap.size w w' := by
  have HU := Lib.hid (ups_any w q hq)
  have hC := fun W v h => cont_any W v (upsS q) p h
  generalize inS (upsS q) p = R at *
  have HC := Lib.hid hC; clear hC
  go_enter Tryz.func114, Tryz.ntmps114
  go_wp2_with fail
  refine HU.out.mono ?_
  rintro e w1 ⟨v, rfl, s, hb1⟩
  have HS := Lib.hid s; clear s
  go_wp2_with fail
  refine (HC.out _ _ HS.out).mono ?_
  rintro e w2 ⟨rfl, rfl⟩
  go_wp2_with fail
  go_ret
  exact ⟨rfl, hb1⟩
end Go.Proofs.YtjcbjocgachpjaaGreatDoor
/- Plain laws of rows of entries that rise by their keys: where a key is, what is put, dropped and got. -/
set_option linter.unusedVariables false
set_option linter.unusedSimpArgs false
namespace Sw
/-- an order that tells below 0, 0, or above 0 -/
structure Ord3 {κ : Type} (c : κ → κ → Int) : Prop where
  zero : ∀ a b, c a b = 0 → a = b
  neg : ∀ a b, c b a = -c a b
  trans : ∀ a b d, c a b < 0 → c b d < 0 → c a d < 0
section
variable {κ ν : Type} {c : κ → κ → Int}
theorem Ord3.self (h : Ord3 c) (a : κ) : c a a = 0 := by have := h.neg a a; omega
theorem Ord3.iff (h : Ord3 c) (a b : κ) : c a b = 0 ↔ a = b := ⟨h.zero a b, fun e => by subst e; exact h.self a⟩
/-- entries that rise -/
def Up (c : κ → κ → Int) (l : List (κ × ν)) : Prop := l.Pairwise fun a b => c a.1 b.1 < 0
/-- the place of a key, or where it would stand -/
def lbN (c : κ → κ → Int) (k : κ) : List (κ × ν) → Nat
  | [] => 0
  | e :: l => if c e.1 k < 0 then lbN c k l + 1 else 0
/-- is a key there? -/
def inN (c : κ → κ → Int) (k : κ) : List (κ × ν) → Bool
  | [] => false
  | e :: l => if c e.1 k < 0 then inN c k l else decide (c e.1 k = 0)
def putN (c : κ → κ → Int) (k : κ) (v : ν) : List (κ × ν) → List (κ × ν)
  | [] => [(k, v)]
  | e :: l => if c e.1 k < 0 then e :: putN c k v l else if c e.1 k = 0 then (k, v) :: l else (k, v) :: e :: l
def getN (c : κ → κ → Int) (k : κ) : List (κ × ν) → Option ν
  | [] => none
  | e :: l => if c e.1 k < 0 then getN c k l else if c e.1 k = 0 then some e.2 else none
def dropN (c : κ → κ → Int) (k : κ) : List (κ × ν) → List (κ × ν)
  | [] => []
  | e :: l => if c e.1 k < 0 then e :: dropN c k l else if c e.1 k = 0 then l else e :: l
theorem lbN_le (k : κ) : ∀ l : List (κ × ν), lbN c k l ≤ l.length
  | [] => Nat.le_refl _
  | e :: l => by
    unfold lbN
    split
    · have := lbN_le k l; simp; omega
    · exact Nat.zero_le _
theorem Up.head {e : κ × ν} {l : List (κ × ν)} (h : Up c (e :: l)) : ∀ x ∈ l, c e.1 x.1 < 0 := (List.pairwise_cons.1 h).1
theorem Up.tail {e : κ × ν} {l : List (κ × ν)} (h : Up c (e :: l)) : Up c l := (List.pairwise_cons.1 h).2
/-- behind one that is not below the key, none is -/
theorem Ord3.up (hO : Ord3 c) {a b k : κ} (hab : c a b < 0) (hb : c b k < 0) : c a k < 0 := hO.trans _ _ _ hab hb
theorem lbN_eq (hO : Ord3 c) (k : κ) (l : List (κ × ν)) (j : Nat) (hj : j ≤ l.length) (h1 : ∀ i (h : i < l.length), i < j → c l[i].1 k < 0) (h2 : ∀ i (h : i < l.length), j ≤ i → 0 ≤ c l[i].1 k) : lbN c k l = j := by
  induction l generalizing j with
  | nil => simp at hj; simp [lbN, hj]
  | cons e l ih =>
    unfold lbN
    cases j with
    | zero =>
      have := h2 0 (by simp) (Nat.le_refl _)
      rw [if_neg (by show ¬ c e.1 k < 0; simp at this; omega)]
    | succ j =>
      have h0 := h1 0 (by simp) (by omega)
      rw [if_pos (by simpa using h0), ih j (by simpa using hj) (fun i h hi => by have := h1 (i + 1) (by simpa using h) (by omega); simpa using this) (fun i h hi => by have := h2 (i + 1) (by simpa using h) (by omega); simpa using this)]
theorem inN_eq (hO : Ord3 c) (k : κ) : ∀ l : List (κ × ν), inN c k l = (if h : lbN c k l < l.length then decide (c (l[lbN c k l]'h).1 k = 0) else false)
  | [] => rfl
  | e :: l => by
    by_cases hc : c e.1 k < 0
    · have ih := inN_eq hO k l
      have hl : lbN c k (e :: l) = lbN c k l + 1 := by rw [lbN, if_pos hc]
      rw [inN, if_pos hc, ih]
      by_cases h : lbN c k l < l.length
      · rw [dif_pos h, dif_pos (by rw [hl]; simpa using h)]
        simp only [hl, List.getElem_cons_succ]
      · rw [dif_neg h, dif_neg (by rw [hl]; simpa using h)]
    · have hl : lbN c k (e :: l) = 0 := by rw [lbN, if_neg hc]
      rw [inN, if_neg hc, dif_pos (by rw [hl]; simp)]
      simp only [hl, List.getElem_cons_zero]
theorem inN_at (hO : Ord3 c) {k : κ} {l : List (κ × ν)} (h : lbN c k l < l.length) : inN c k l = decide (c (l[lbN c k l]'h).1 k = 0) := by rw [inN_eq hO, dif_pos h]
theorem inN_out (hO : Ord3 c) {k : κ} {l : List (κ × ν)} (h : ¬ lbN c k l < l.length) : inN c k l = false := by rw [inN_eq hO, dif_neg h]
theorem inN_lt (hO : Ord3 c) {k : κ} {l : List (κ × ν)} (h : inN c k l = true) : lbN c k l < l.length := by
  by_cases hl : lbN c k l < l.length
  · exact hl
  · rw [inN_out hO hl] at h; cases h
theorem put_hit (k : κ) (v : ν) : ∀ l : List (κ × ν), inN c k l = true → putN c k v l = l.set (lbN c k l) (k, v)
  | [], h => by cases h
  | e :: l, h => by
    unfold inN at h
    unfold putN lbN
    by_cases hc : c e.1 k < 0
    · rw [if_pos hc] at h ⊢
      rw [if_pos hc, List.set_cons_succ, put_hit k v l h]
    · rw [if_neg hc, decide_eq_true_eq] at h
      rw [if_neg hc, if_neg hc, if_pos h, List.set_cons_zero]
theorem put_miss (k : κ) (v : ν) : ∀ l : List (κ × ν), inN c k l = false → putN c k v l = l.take (lbN c k l) ++ (k, v) :: l.drop (lbN c k l)
  | [], _ => rfl
  | e :: l, h => by
    unfold inN at h
    unfold putN lbN
    by_cases hc : c e.1 k < 0
    · rw [if_pos hc] at h ⊢
      rw [if_pos hc, List.take_succ_cons, List.drop_succ_cons, put_miss k v l h, List.cons_append]
    · rw [if_neg hc, decide_eq_false_iff_not] at h
      rw [if_neg hc, if_neg hc, if_neg h, List.take_zero, List.drop_zero, List.nil_append]
theorem get_hit (hO : Ord3 c) (k : κ) : ∀ l : List (κ × ν), inN c k l = true → ∃ h : lbN c k l < l.length, getN c k l = some (l[lbN c k l]'h).2
  | [], h => by cases h
  | e :: l, h => by
    unfold inN at h
    by_cases hc : c e.1 k < 0
    · rw [if_pos hc] at h
      obtain ⟨hl, he⟩ := get_hit hO k l h
      have h2 : lbN c k (e :: l) = lbN c k l + 1 := by rw [lbN, if_pos hc]
      refine ⟨by rw [h2]; simpa using hl, ?_⟩
      rw [getN, if_pos hc, he]
      simp only [h2, List.getElem_cons_succ]
    · rw [if_neg hc, decide_eq_true_eq] at h
      have h2 : lbN c k (e :: l) = 0 := by rw [lbN, if_neg hc]
      refine ⟨by rw [h2]; simp, ?_⟩
      rw [getN, if_neg hc, if_pos h]
      simp only [h2, List.getElem_cons_zero]
theorem get_miss (k : κ) : ∀ l : List (κ × ν), inN c k l = false → getN c k l = none
  | [], _ => rfl
  | e :: l, h => by
    unfold inN at h
    unfold getN
    by_cases hc : c e.1 k < 0
    · rw [if_pos hc] at h ⊢
      rw [get_miss k l h]
    · rw [if_neg hc, decide_eq_false_iff_not] at h
      rw [if_neg hc, if_neg h]
theorem put_mem (k : κ) (v : ν) : ∀ (l : List (κ × ν)) (x : κ × ν), x ∈ putN c k v l → x = (k, v) ∨ x ∈ l
  | [], x, h => by simp [putN] at h; exact .inl h
  | e :: l, x, h => by
    unfold putN at h
    by_cases hc : c e.1 k < 0
    · rw [if_pos hc, List.mem_cons] at h
      rcases h with h | h
      · right; rw [h]; simp
      · rcases put_mem k v l x h with h | h
        · exact .inl h
        · right; simp [h]
    · rw [if_neg hc] at h
      split at h
      · rw [List.mem_cons] at h
        rcases h with h | h
        · exact .inl h
        · right; simp [h]
      · rw [List.mem_cons] at h
        rcases h with h | h
        · exact .inl h
        · exact .inr h
theorem drop_mem (k : κ) : ∀ (l : List (κ × ν)) (x : κ × ν), x ∈ dropN c k l → x ∈ l
  | [], x, h => h
  | e :: l, x, h => by
    unfold dropN at h
    by_cases hc : c e.1 k < 0
    · rw [if_pos hc, List.mem_cons] at h
      rcases h with h | h
      · rw [h]; simp
      · simp [drop_mem k l x h]
    · rw [if_neg hc] at h
      split at h
      · simp [h]
      · exact h
theorem Ord3.not_lt (hO : Ord3 c) {a b : κ} (h1 : ¬ c a b < 0) (h2 : ¬ c a b = 0) : c b a < 0 := by have := hO.neg a b; omega
theorem put_up (hO : Ord3 c) (k : κ) (v : ν) : ∀ l : List (κ × ν), Up c l → Up c (putN c k v l)
  | [], _ => by simp [putN, Up]
  | e :: l, hu => by
    unfold putN
    by_cases hc : c e.1 k < 0
    · rw [if_pos hc]
      refine List.pairwise_cons.2 ⟨fun x hx => ?_, put_up hO k v l hu.tail⟩
      rcases put_mem k v l x hx with rfl | hx
      · exact hc
      · exact hu.head x hx
    · rw [if_neg hc]
      by_cases h0 : c e.1 k = 0
      · rw [if_pos h0]
        have he := hO.zero _ _ h0
        subst he
        exact List.pairwise_cons.2 ⟨fun x hx => hu.head x hx, hu.tail⟩
      · rw [if_neg h0]
        have hk := hO.not_lt hc h0
        refine List.pairwise_cons.2 ⟨fun x hx => ?_, hu⟩
        rw [List.mem_cons] at hx
        rcases hx with rfl | hx
        · exact hk
        · exact hO.trans _ _ _ hk (hu.head x hx)
theorem put_len (k : κ) (v : ν) : ∀ l : List (κ × ν), (putN c k v l).length = if inN c k l = true then l.length else l.length + 1
  | [] => rfl
  | e :: l => by
    unfold putN inN
    by_cases hc : c e.1 k < 0
    · rw [if_pos hc, if_pos hc, List.length_cons, put_len k v l, List.length_cons]; split <;> rfl
    · rw [if_neg hc, if_neg hc]
      by_cases h0 : c e.1 k = 0
      · rw [if_pos h0, decide_eq_true h0]; simp
      · rw [if_neg h0, decide_eq_false h0]; simp
/-- what a row of all by one loop is: those below, the new one, those above -/
theorem put_filter (hO : Ord3 c) (k : κ) (v : ν) : ∀ l : List (κ × ν), Up c l → putN c k v l = l.filter (fun e => decide (c e.1 k < 0)) ++ (k, v) :: l.filter (fun e => decide (0 < c e.1 k))
  | [], _ => rfl
  | e :: l, hu => by
    unfold putN
    by_cases hc : c e.1 k < 0
    · rw [if_pos hc, put_filter hO k v l hu.tail, List.filter_cons_of_pos (by simpa using hc), List.filter_cons_of_neg (by simp; omega)]
      rfl
    · rw [if_neg hc]
      have hge : ∀ x ∈ l, 0 < c x.1 k := fun x hx => by
        have h1 := hu.head x hx
        by_cases h0 : c e.1 k = 0
        · have he := hO.zero _ _ h0
          rw [← he]
          have := hO.neg e.1 x.1
          omega
        · have h2 := hO.not_lt hc h0
          have h3 := hO.trans _ _ _ h2 h1
          have := hO.neg k x.1
          omega
      have hA : l.filter (fun e => decide (c e.1 k < 0)) = [] := List.filter_eq_nil_iff.2 fun x hx => by have := hge x hx; simp; omega
      have hB : l.filter (fun e => decide (0 < c e.1 k)) = l := List.filter_eq_self.2 fun x hx => by simpa using hge x hx
      by_cases h0 : c e.1 k = 0
      · rw [if_pos h0, List.filter_cons_of_neg (by simp; omega), List.filter_cons_of_neg (by simp; omega), hA, hB]; rfl
      · rw [if_neg h0, List.filter_cons_of_neg (by simp; omega), List.filter_cons_of_pos (by simp; omega), hA, hB]; rfl
theorem get_find (hO : Ord3 c) (k : κ) : ∀ l : List (κ × ν), Up c l → getN c k l = (l.find? fun e => decide (c e.1 k = 0)).map (·.2)
  | [], _ => rfl
  | e :: l, hu => by
    unfold getN
    by_cases hc : c e.1 k < 0
    · rw [if_pos hc, get_find hO k l hu.tail, List.find?_cons_of_neg (by simp; omega)]
    · rw [if_neg hc]
      by_cases h0 : c e.1 k = 0
      · rw [if_pos h0, List.find?_cons_of_pos (by simpa using h0)]; rfl
      · rw [if_neg h0, List.find?_cons_of_neg (by simpa using h0)]
        have h2 := hO.not_lt hc h0
        have hn : l.find? (fun e => decide (c e.1 k = 0)) = none := List.find?_eq_none.2 fun x hx => by
          have h3 := hO.trans _ _ _ h2 (hu.head x hx)
          have := hO.neg k x.1
          simp; omega
        rw [hn]; rfl
end
end Sw
/- The order of paths, as sorted asks for it. -/
set_option linter.unusedVariables false
set_option linter.unusedSimpArgs false
namespace Sw
open Go Go.RowKit
open Go.Proofs.YtjcbjocgachpjaaGreatDoor (partsS)
open Go.Lib (compareBytes)
theorem cb_trans : ∀ a b d : List UInt8, compareBytes a b = -1 → compareBytes b d = -1 → compareBytes a d = -1
  | [], [], _, h, _ => by simp [compareBytes] at h
  | [], _ :: _, [], _, h => by simp [compareBytes] at h
  | [], _ :: _, _ :: _, _, _ => rfl
  | _ :: _, [], _, h, _ => by simp [compareBytes] at h
  | _ :: _, _ :: _, [], _, h => by simp [compareBytes] at h
  | x :: a, y :: b, z :: d, h1, h2 => by
    rw [compareBytes] at h1 h2 ⊢
    by_cases hxy : x < y
    · by_cases hyz : y < z
      · rw [if_pos (UInt8.lt_trans hxy hyz)]
      · by_cases hzy : z < y
        · rw [if_neg hyz, if_pos hzy] at h2; cases h2
        · have := u8_tri y z hyz hzy; subst this; rw [if_pos hxy]
    · by_cases hyx : y < x
      · rw [if_neg hxy, if_pos hyx] at h1; cases h1
      · have := u8_tri x y hxy hyx
        subst this
        rw [if_neg hxy, if_neg hyx] at h1
        by_cases hyz : x < z
        · rw [if_pos hyz]
        · by_cases hzy : z < x
          · rw [if_neg hyz, if_pos hzy] at h2; cases h2
          · rw [if_neg hyz, if_neg hzy] at h2 ⊢
            exact cb_trans a b d h1 h2
theorem cL_trans : ∀ a b d : List ByteArray, cL a b = -1 → cL b d = -1 → cL a d = -1
  | [], [], _, h, _ => by simp [cL] at h
  | [], _ :: _, [], _, h => by simp [cL] at h
  | [], _ :: _, _ :: _, _, _ => rfl
  | _ :: _, [], _, h, _ => by simp [cL] at h
  | _ :: _, _ :: _, [], _, h => by simp [cL] at h
  | x :: a, y :: b, z :: d, h1, h2 => by
    rw [cL] at h1 h2 ⊢
    by_cases hxy : compareBytes x.data.toList y.data.toList = 0
    · rw [if_pos hxy] at h1
      have := dat_inj (cb_zero _ _ hxy)
      subst this
      by_cases hyz : compareBytes x.data.toList z.data.toList = 0
      · rw [if_pos hyz] at h2 ⊢
        exact cL_trans a b d h1 h2
      · rw [if_neg hyz] at h2 ⊢
        exact h2
    · rw [if_neg hxy] at h1
      by_cases hyz : compareBytes y.data.toList z.data.toList = 0
      · have := dat_inj (cb_zero _ _ hyz)
        subst this
        rw [if_neg hxy]
        exact h1
      · rw [if_neg hyz] at h2
        have h3 := cb_trans _ _ _ h1 h2
        rw [if_neg (by omega)]
        exact h3
theorem ordS_trans {p q s : ByteArray} (h1 : ordS p q = -1) (h2 : ordS q s = -1) : ordS p s = -1 := by
  unfold ordS at *
  by_cases hp : (partsS p).length = 0
  · by_cases hq : (partsS q).length = 0
    · rw [if_pos ⟨hp, hq⟩] at h1
      by_cases hs : (partsS s).length = 0
      · rw [if_pos ⟨hq, hs⟩] at h2
        rw [if_pos ⟨hp, hs⟩]
        exact cb_trans _ _ _ h1 h2
      · rw [if_neg (fun e => hs e.2)] at h2 ⊢
        have e1 := List.length_eq_zero_iff.1 hp
        have e2 := List.length_eq_zero_iff.1 hq
        rw [e2] at h2
        rw [e1]
        exact h2
    · rw [if_neg (fun e => hq e.2)] at h1
      rw [if_neg (fun e => hq e.1)] at h2
      have h3 := cL_trans _ _ _ h1 h2
      by_cases hs : (partsS s).length = 0
      · have e1 := List.length_eq_zero_iff.1 hp
        have e2 := List.length_eq_zero_iff.1 hs
        rw [e1, e2] at h3
        cases h3
      · rw [if_neg (fun e => hs e.2)]
        exact h3
  · rw [if_neg (fun e => hp e.1)] at h1 ⊢
    by_cases hq : (partsS q).length = 0
    · have e2 := List.length_eq_zero_iff.1 hq
      rw [e2] at h1
      cases hpp : partsS p with
      | nil => rw [hpp] at hp; exact absurd rfl hp
      | cons x l => rw [hpp] at h1; cases h1
    · rw [if_neg (fun e => hq e.1)] at h2
      exact cL_trans _ _ _ h1 h2
theorem ordS_ord : Ord3 ordS := ⟨fun a b h => ordS_zero h, ordS_neg, fun a b d h1 h2 => by
  have e1 := ordS_three a b
  have e2 := ordS_three b d
  have := ordS_trans (p := a) (q := b) (s := d) (by omega) (by omega)
  omega⟩
/-- keys that sorted is asked for -/
def okS (k : ByteArray) : Prop := k.size ≤ 90000
end Sw
namespace Go.Proofs.YtjcbjocgachpjaaGreatDoor
open Go Go.RowKit
open Sw
theorem orderS_any (w : World) (a b : ByteArray) (ha : okS a) (hb : okS b) :
    Calls Tryz.prog 38 #[.string a, .string b] w fun e w' => e = .returned (.int .i64 (ordS a b)) ∧ Below w.heap.size w w' := by
  unfold okS at ha hb
  exact order_any w a b (by omega) (by omega)
end Go.Proofs.YtjcbjocgachpjaaGreatDoor
/- Nodes and prints as Lean's own data. -/
set_option linter.unusedVariables false
namespace Sw
open Go
/-- a node -/
structure Nd where
  kind : Int
  mode : Int
  time : Int
  data : ByteArray
/-- a print -/
structure Pr where
  kind : Int
  mode : Int
  time : Int
  size : Int
  sum : Int
def Nd.c (n : Nd) : Array Value := #[.int .i64 n.kind, .int .i64 n.mode, .int .u32 n.time, .string n.data]
def Pr.c (p : Pr) : Array Value := #[.int .i64 p.kind, .int .i64 p.mode, .int .u32 p.time, .int .i64 p.size, .int .u32 p.sum]
end Sw
/- Plain laws of layer 12: days, times and their parts. No program in sight. -/
set_option linter.unusedVariables false
namespace Sw
def leapI (y : Int) : Bool := decide (y % 4 = 0 ∧ y ≠ 2100)
def daysI (y m : Int) : Int :=
  if y < 1980 ∨ 2107 < y ∨ m < 1 ∨ 12 < m then 0 else if m = 2 then (if leapI y = true then 29 else 28) else if m = 4 ∨ m = 6 ∨ m = 9 ∨ m = 11 then 30 else 31
/-- a time's parts -/
structure Dt where
  y : Int
  m : Int
  d : Int
  h : Int
  mi : Int
  s : Int
/-- may these parts be? -/
def Dt.Ok (x : Dt) : Prop := 1 ≤ x.d ∧ x.d ≤ daysI x.y x.m ∧ 0 ≤ x.h ∧ x.h < 24 ∧ 0 ≤ x.mi ∧ x.mi < 60 ∧ 0 ≤ x.s ∧ x.s < 60 ∧ x.s % 2 = 0
instance (x : Dt) : Decidable x.Ok := by unfold Dt.Ok; exact inferInstance
def splitD (t : Int) : Dt := ⟨1980 + t / 33554432, t / 2097152 % 16, t / 65536 % 32, t / 2048 % 32, t / 32 % 64, 2 * (t % 32)⟩
def ofD (x : Dt) : Int := (((((x.y - 1980) * 16 + x.m) * 32 + x.d) * 32 + x.h) * 64 + x.mi) * 32 + x.s / 2
theorem daysI_le (y m : Int) : 0 ≤ daysI y m ∧ daysI y m ≤ 31 := by
  unfold daysI
  split
  · omega
  · split
    · split <;> omega
    · split <;> omega
theorem Dt.Ok.year {x : Dt} (h : x.Ok) : 1980 ≤ x.y ∧ x.y ≤ 2107 ∧ 1 ≤ x.m ∧ x.m ≤ 12 ∧ 1 ≤ x.d ∧ x.d ≤ 31 := by
  unfold Dt.Ok at h
  obtain ⟨h1, h2, _⟩ := h
  have h3 := daysI_le x.y x.m
  have h4 : ¬ (x.y < 1980 ∨ 2107 < x.y ∨ x.m < 1 ∨ 12 < x.m) := by
    intro h4
    unfold daysI at h2
    rw [if_pos h4] at h2
    omega
  omega
theorem ofD_lt {x : Dt} (h : x.Ok) : 0 ≤ ofD x ∧ ofD x < 4294967296 := by
  have hy := h.year
  unfold Dt.Ok at h
  unfold ofD
  omega
theorem splitD_ofD {x : Dt} (h : x.Ok) : splitD (ofD x) = x := by
  have hy := h.year
  unfold Dt.Ok at h
  unfold splitD ofD
  cases x
  simp only [Dt.mk.injEq] at *
  omega
theorem ofD_splitD (t : Int) (h0 : 0 ≤ t) (h1 : t < 4294967296) : ofD (splitD t) = t := by
  unfold splitD ofD
  simp only
  omega
end Sw

/- Contracts of the days of a month, and of whether parts may be. -/
set_option linter.unusedVariables false
namespace Go.Proofs.YtjcbjocgachpjaaGreatDoor
open Go.RowKit
open Sw
theorem leap_any (w : World) (y : Int) (h0 : -9223372036854775808 ≤ y) (h1 : y ≤ 9223372036854775807) :
    Calls Tryz.prog 172 #[.int .i64 y] w fun e w' => e = .returned (.bool (leapI y)) ∧ w = w' := by
  have e4 : (y.tmod 4 == 0) = decide (y % 4 = 0) := by
    rw [Bool.eq_iff_iff, beq_iff_eq, decide_eq_true_iff, ← Int.dvd_iff_tmod_eq_zero, ← Int.dvd_iff_emod_eq_zero]
  by_cases h4 : y % 4 = 0
  · have ht : (y.tmod 4 == 0) = true := by rw [e4]; simpa using h4
    by_cases h5 : y = 2100
    · have hl : leapI y = false := by unfold leapI; simp [h5]
      have HL := Lib.hid hl
      clear hl e4
      go_enter Tryz.func172, Tryz.ntmps172
      go_wp2_with fail
      go_ret
      rw [HL.out]; exact ⟨by simp, rfl⟩
    · have hl : leapI y = true := by unfold leapI; simp [h4, h5]
      have hn : (y != 2100) = true := by simp [h5]
      have HL := Lib.hid hl
      clear hl e4
      go_enter Tryz.func172, Tryz.ntmps172
      go_wp2_with fail
      go_ret
      rw [HL.out]; exact ⟨by simp, rfl⟩
  · have ht : (y.tmod 4 == 0) = false := by rw [e4]; simpa using h4
    have hl : leapI y = false := by unfold leapI; simp [h4]
    have HL := Lib.hid hl
    clear hl e4
    go_enter Tryz.func172, Tryz.ntmps172
    go_wp2_with fail
    go_ret
    rw [HL.out]; exact ⟨by simp, rfl⟩
set_option maxHeartbeats 1000000 in
theorem days_any (w : World) (y m : Int) (h0 : -9223372036854775808 ≤ y) (h1 : y ≤ 9223372036854775807) (m0 : -9223372036854775808 ≤ m) (m1 : m ≤ 9223372036854775807) :
    Calls Tryz.prog 153 #[.int .i64 y, .int .i64 m] w fun e w' => e = .returned (.int .i64 (daysI y m)) ∧ Below w.heap.size w w' := by
  by_cases hbad : y < 1980 ∨ 2107 < y ∨ m < 1 ∨ 12 < m
  · have hd : daysI y m = 0 := by unfold daysI; rw [if_pos hbad]
    rw [hd]
    rcases Classical.em (y < 1980) with h | h
    · go_enter Tryz.func153, Tryz.ntmps153
      go_wp2_with fail
      go_ret
      exact ⟨rfl, Below.refl _ _⟩
    rcases Classical.em (2107 < y) with h2 | h2
    · go_enter Tryz.func153, Tryz.ntmps153
      go_wp2_with fail
      go_ret
      exact ⟨rfl, Below.refl _ _⟩
    rcases Classical.em (m < 1) with h3 | h3
    · go_enter Tryz.func153, Tryz.ntmps153
      go_wp2_with fail
      go_ret
      exact ⟨rfl, Below.refl _ _⟩
    have h4 : 12 < m := by omega
    go_enter Tryz.func153, Tryz.ntmps153
    go_wp2_with fail
    go_ret
    exact ⟨rfl, Below.refl _ _⟩
  · have hy0 : ¬ y < 1980 := by omega
    have hy1 : ¬ 2107 < y := by omega
    have HD := Lib.hid (show daysI y m = _ by unfold daysI; rw [if_neg hbad])
    have L := Lib.hid (fun W => leap_any W y h0 h1)
    have hm : m = 1 ∨ m = 2 ∨ m = 3 ∨ m = 4 ∨ m = 5 ∨ m = 6 ∨ m = 7 ∨ m = 8 ∨ m = 9 ∨ m = 10 ∨ m = 11 ∨ m = 12 := by omega
    clear hbad m0 m1 h0 h1
    rcases hm with rfl | rfl | rfl | rfl | rfl | rfl | rfl | rfl | rfl | rfl | rfl | rfl
    case inr.inl =>
      rcases hl : leapI y with _ | _
      all_goals
        rw [hl] at HD L
        have hd := HD.out
        simp at hd
        rw [hd]
        clear hd HD
        go_enter Tryz.func153, Tryz.ntmps153
        go_wp2_with (go_at_call 172; refine (L.out _).mono ?_; rintro e w' ⟨rfl, rfl⟩)
        go_ret
        exact ⟨rfl, (Below.refl _ _).alloc (Nat.le_refl _) _⟩
    all_goals
      have hd := HD.out
      simp at hd
      rw [hd]
      clear hd HD L
      go_enter Tryz.func153, Tryz.ntmps153
      go_wp2_with fail
      go_ret
      exact ⟨rfl, (Below.refl _ _).alloc (Nat.le_refl _) _⟩
end Go.Proofs.YtjcbjocgachpjaaGreatDoor
