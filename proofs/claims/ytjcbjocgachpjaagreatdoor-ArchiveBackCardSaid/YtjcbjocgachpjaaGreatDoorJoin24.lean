/- Several texts, joined for the limit of sixty files; each one opens with its own comment. -/
import Derived.Test.YtjcbjocgachpjaaGreatDoorJoin19
import Derived.Test.YtjcbjocgachpjaaGreatDoorJoin23
import Derived.Test.YtjcbjocgachpjaaGreatDoorJoin18
import Derived.Test.YtjcbjocgachpjaaGreatDoorJoin9
import Derived.Test.YtjcbjocgachpjaaGreatDoorJoin15
import Derived.Test.YtjcbjocgachpjaaGreatDoorJoin17
import Derived.Test.YtjcbjocgachpjaaGreatDoorJoin16
import Derived.StillTail
import Derived.Deep.Quiet
import Derived.Test.YtjcbjocgachpjaaGreatDoorJoin5
import Derived.Test.YtjcbjocgachpjaaGreatDoorJoin4
import Derived.Lib.Join
/- What two trees agree on, plainly: it may be a Base; it is the same both ways round; of one and itself it is all; twice over it may not be. -/
set_option linter.unusedVariables false
set_option linter.unusedSimpArgs false
namespace Sw
open Go Go.Proofs.YtjcbjocgachpjaaGreatDoor
theorem marks_up {xs : List NE} (h : Up ordS xs) : Up ordS (marksT xs) := by
  unfold marksT Up
  rw [List.pairwise_map]
  exact h
theorem findM_iff {L : List MkE} (h : Up ordS L) (m : MkE) : findM L m.1 = some m.2 ↔ m ∈ L := by
  constructor
  · intro hf
    exact findM_mem hf
  · intro hm
    rw [← getN_findM h]
    exact (get_of_mem ordS_ord h hm).1
theorem agree_mem {L M : List MkE} (hM : Up ordS M) (m : MkE) : m ∈ agreeM L M ↔ m ∈ L ∧ m ∈ M := by
  unfold agreeM
  rw [List.mem_filter, decide_eq_true_eq, findM_iff hM]
theorem agree_up {L M : List MkE} (hL : Up ordS L) : Up ordS (agreeM L M) := List.Pairwise.filter _ hL
theorem agree_comm {L M : List MkE} (hL : Up ordS L) (hM : Up ordS M) : agreeM L M = agreeM M L :=
  up_ext ordS_ord _ _ (agree_up hL) (agree_up hM) (fun m => by rw [agree_mem hM, agree_mem hL]; exact And.comm)
theorem agree_self {L : List MkE} (hL : Up ordS L) : agreeM L L = L :=
  up_ext ordS_ord _ _ (agree_up hL) hL (fun m => by rw [agree_mem hL]; exact ⟨fun h => h.1, fun h => ⟨h, h⟩⟩)
theorem ordS_lt {p q : ByteArray} (h : ordS p q < 0) : ordS p q = -1 := by
  rcases ordS_three p q with e | e | e <;> omega
/-- marks that may stand in a Base -/
def OkM (m : MkE) : Prop := rightL m.1.data.toList = true ∧ fineP m.2 = true ∧ ¬ m.2.kind = 0
theorem rises_of {L : List MkE} (hu : Up ordS L) (hk : ∀ m ∈ L, OkM m) : risesM L = true := by
  refine risesM_yes fun i hi => ?_
  have hm := hk _ (List.getElem_mem hi)
  obtain ⟨h1, h2, h3⟩ := hm
  cases i with
  | zero =>
    rw [okI_zero (List.getElem?_eq_getElem hi), h1, h2, decide_eq_false h3]
    rfl
  | succ j =>
    have hj : j < L.length := by omega
    have h4 := List.pairwise_iff_getElem.1 hu j (j + 1) hj hi (by omega)
    rw [okI_succ (List.getElem?_eq_getElem hi) (List.getElem?_eq_getElem hj), h1, h2, decide_eq_false h3, decide_eq_true (ordS_lt h4)]
    rfl
theorem right_of {L : List MkE} (hu : Up ordS L) (hk : ∀ m ∈ L, OkM m) : rightM L [] = true := by
  unfold rightM
  rw [rises_of hu hk]
  rfl
/-- a row twice over is no Base -/
theorem right_twice {L : List MkE} (hu : Up ordS L) (h0 : 0 < L.length) : rightM (L ++ L) [] = false := by
  have h1 : risesM (L ++ L) = false := by
    have hi : L.length < (L ++ L).length := by rw [List.length_append]; omega
    refine risesM_no hi ?_
    obtain ⟨k, hk⟩ : ∃ k, L.length = k + 1 := ⟨L.length - 1, by omega⟩
    have ha : (L ++ L)[k + 1]? = some L[0] := by
      rw [List.getElem?_append_right (by omega)]
      simp [hk, List.getElem?_eq_getElem h0]
    have hb : (L ++ L)[k]? = some L[k] := by
      rw [List.getElem?_append_left (by omega)]
      exact List.getElem?_eq_getElem _
    rw [hk, okI_succ ha hb]
    have hne : ¬ ordS L[k].1 L[0].1 = -1 := by
      intro e
      rcases Nat.eq_zero_or_pos k with h | h
      · subst h
        rw [ordS_refl] at e
        cases e
      · have h4 := List.pairwise_iff_getElem.1 hu 0 k h0 (by omega) h
        have h5 := ordS_neg L[0].1 L[k].1
        omega
    rw [decide_eq_false hne]
    simp
  unfold rightM
  rw [h1]
  rfl
theorem fine_print {n : Nd} (h : nodeR n = 0) (hk : ¬ n.kind = 0) : fineP (printN n) = true := by
  obtain ⟨k, m, t, d⟩ := n
  unfold nodeR at h
  unfold fineP printN
  simp only at h hk ⊢
  by_cases h1 : k = 1
  · subst h1
    simp only [Int.reduceEq, not_false_eq_true, not_true_eq_false, and_false, false_and, if_false, or_self, and_self, true_and, if_true] at h ⊢
    by_cases hm : 0 ≤ m ∧ m ≤ 511
    · rw [if_neg (by simpa using hm)] at h
      by_cases ht : (splitD t).Ok
      · rw [if_neg (by simpa using ht)] at h
        by_cases hz : (65000 : Int) < d.size
        · rw [if_pos hz] at h; cases h
        · rw [decide_eq_true hm, decide_eq_true ht]
          have e1 : decide ((0 : Int) ≤ d.size) = true := decide_eq_true (by omega)
          have e2 : decide ((d.size : Int) ≤ 65000) = true := decide_eq_true (by omega)
          rw [e1, e2]
          by_cases h0 : (0 : Int) < d.size
          · rw [decide_eq_true h0]; rfl
          · have hd : d.data.toList = [] := by
              have : d.data.toList.length = 0 := by
                have : d.size = 0 := by omega
                simpa using this
              exact List.eq_nil_of_length_eq_zero this
            rw [hd]
            have : (((ofS [] : Nat) : Int) == 0) = true := by decide +kernel
            rw [this]; simp
      · rw [if_pos (by simpa using ht)] at h; cases h
    · rw [if_pos (by simpa using hm)] at h; cases h
  · by_cases h2 : k = 2
    · subst h2
      simp only [Int.reduceEq, not_false_eq_true, not_true_eq_false, and_false, false_and, if_false, false_or, true_and, if_true, and_true, and_self] at h ⊢
      by_cases hd : ¬ d.data.toList = [] ∨ ¬ t = 0
      · rw [if_pos hd] at h; cases h
      · rw [if_neg hd] at h
        by_cases hm : 0 ≤ m ∧ m ≤ 511
        · have hd1 : d.data.toList = [] := by
            rcases Classical.em (d.data.toList = []) with e | e
            · exact e
            · exact absurd (.inl e) hd
          have ht : t = 0 := by
            rcases Classical.em (t = 0) with e | e
            · exact e
            · exact absurd (.inr e) hd
          have hz : d.size = 0 := by
            have : d.data.toList.length = 0 := by rw [hd1]; rfl
            simpa using this
          rw [decide_eq_true hm, ht, hz]
          rfl
        · rw [if_pos (by simpa using hm)] at h; cases h
    · rw [if_pos ⟨hk, h1, h2⟩] at h; cases h
theorem agree_ok {xs ys : List NE} (hx : TI xs) : ∀ m ∈ agreeM (marksT xs) (marksT ys), OkM m := fun m hm => by
  obtain ⟨e, he, rfl⟩ := List.mem_map.1 (List.mem_filter.1 hm).1
  exact ⟨hx.paths e he, fine_print (hx.nod e he).2 (hx.nod e he).1, (hx.nod e he).1⟩
theorem right_agree {xs ys : List NE} (hx : TI xs) : rightM (agreeM (marksT xs) (marksT ys)) [] = true := right_of (agree_up (marks_up hx.up)) (agree_ok hx)
end Sw
/- The text of marks, plainly: its lines, and the words of a print. -/
set_option linter.unusedVariables false
set_option linter.unusedSimpArgs false
namespace Go.Proofs.YtjcbjocgachpjaaGreatDoor
open Go Go.RowKit
open Sw
theorem digL_no (n : Nat) : ∀ k, (32 : UInt8) ∉ digL n k ∧ (9 : UInt8) ∉ digL n k ∧ (10 : UInt8) ∉ digL n k
  | 0 => by simp [digL]
  | k + 1 => by
    obtain ⟨h1, h2, h3⟩ := digL_no n k
    have h : UInt8.ofNat (48 + n / 10 ^ k % 10) = dgB (n / 10 ^ k) := rfl
    obtain ⟨k1, k2, k3⟩ := dg_no (n / 10 ^ k)
    rw [digL, h]
    simp only [List.mem_cons, not_or]
    exact ⟨⟨k1.symm, h1⟩, ⟨k2.symm, h2⟩, ⟨k3.symm, h3⟩⟩
/-- the day, and the hour, of a time's text -/
def dayL (x : Dt) : List UInt8 := digL x.y.toNat 4 ++ [45] ++ digL x.m.toNat 2 ++ [45] ++ digL x.d.toNat 2
def hourL (x : Dt) : List UInt8 := digL x.h.toNat 2 ++ [58] ++ digL x.mi.toNat 2 ++ [58] ++ digL x.s.toNat 2
theorem textD_two (x : Dt) : (textD x).data.toList = dayL x ++ 32 :: hourL x := by
  rw [textD_list]
  simp [dayL, hourL]
theorem day_no (x : Dt) : (32 : UInt8) ∉ dayL x ∧ (9 : UInt8) ∉ dayL x ∧ (10 : UInt8) ∉ dayL x := by
  obtain ⟨a1, a2, a3⟩ := digL_no x.y.toNat 4
  obtain ⟨b1, b2, b3⟩ := digL_no x.m.toNat 2
  obtain ⟨c1, c2, c3⟩ := digL_no x.d.toNat 2
  unfold dayL
  simp only [List.mem_append, List.mem_singleton, not_or]
  exact ⟨⟨⟨⟨⟨a1, by decide⟩, b1⟩, by decide⟩, c1⟩, ⟨⟨⟨⟨a2, by decide⟩, b2⟩, by decide⟩, c2⟩, ⟨⟨⟨⟨a3, by decide⟩, b3⟩, by decide⟩, c3⟩⟩
theorem hour_no (x : Dt) : (32 : UInt8) ∉ hourL x ∧ (9 : UInt8) ∉ hourL x ∧ (10 : UInt8) ∉ hourL x := by
  obtain ⟨a1, a2, a3⟩ := digL_no x.h.toNat 2
  obtain ⟨b1, b2, b3⟩ := digL_no x.mi.toNat 2
  obtain ⟨c1, c2, c3⟩ := digL_no x.s.toNat 2
  unfold hourL
  simp only [List.mem_append, List.mem_singleton, not_or]
  exact ⟨⟨⟨⟨⟨a1, by decide⟩, b1⟩, by decide⟩, c1⟩, ⟨⟨⟨⟨a2, by decide⟩, b2⟩, by decide⟩, c2⟩, ⟨⟨⟨⟨a3, by decide⟩, b3⟩, by decide⟩, c3⟩⟩
/-- "dir", "file" -/
def dirL : List UInt8 := [100, 105, 114]
def fileL : List UInt8 := [102, 105, 108, 101]
/-- the text of a print that is not none -/
def textPL (p : Pr) : List UInt8 :=
  if p.kind = 2 then dirL ++ 32 :: permL p.mode.toNat
  else fileL ++ 32 :: (permL p.mode.toNat ++ 32 :: ((textD (splitD p.time)).data.toList ++ 32 :: (dcW p.size.toNat [] ++ 32 :: hexL p.sum.toNat)))
theorem words_dir {p : Pr} (h : p.kind = 2) (hm : p.mode.toNat < 512) : wdL 32 (textPL p) = [dirL, permL p.mode.toNat] := by
  unfold textPL
  rw [if_pos h, wdL_app 32 _ _ (by decide), wdL_none 32 _ (perm_no _ hm).1]
theorem words_file {p : Pr} (h : ¬ p.kind = 2) (hm : p.mode.toNat < 512) : wdL 32 (textPL p) = [fileL, permL p.mode.toNat, dayL (splitD p.time), hourL (splitD p.time), dcW p.size.toNat [], hexL p.sum.toNat] := by
  unfold textPL
  rw [if_neg h, wdL_app 32 _ _ (by decide), wdL_app 32 _ _ (perm_no _ hm).1, textD_two, List.append_assoc, List.cons_append, wdL_app 32 _ _ (day_no _).1, wdL_app 32 _ _ (hour_no _).1, wdL_app 32 _ _ (dc_no _).1, wdL_none 32 _ (hex_no _).1]
theorem textPL_no {p : Pr} (hm : p.mode.toNat < 512) : (9 : UInt8) ∉ textPL p ∧ (10 : UInt8) ∉ textPL p := by
  obtain ⟨-, a2, a3⟩ := perm_no _ hm
  obtain ⟨-, b2, b3⟩ := day_no (splitD p.time)
  obtain ⟨-, c2, c3⟩ := hour_no (splitD p.time)
  obtain ⟨-, d2, d3⟩ := dc_no p.size.toNat
  obtain ⟨-, e2, e3⟩ := hex_no p.sum.toNat
  unfold textPL
  split
  · simp only [List.mem_append, List.mem_cons, not_or]
    exact ⟨⟨by decide, by decide, a2⟩, by decide, by decide, a3⟩
  · rw [textD_two]
    simp only [List.mem_append, List.mem_cons, not_or]
    exact ⟨⟨by decide, by decide, a2, by decide, ⟨b2, by decide, c2⟩, by decide, d2, by decide, e2⟩, by decide, by decide, a3, by decide, ⟨b3, by decide, c3⟩, by decide, d3, by decide, e3⟩
/-- a mark's line, without its end -/
def lineM (m : MkE) : List UInt8 := 61 :: (m.1.data.toList ++ 9 :: textPL m.2)
/-- "swingle 1" -/
def beginL : List UInt8 := [115, 119, 105, 110, 103, 108, 101, 32, 49]
/-- the text of marks on which two sides agree -/
def textML (L : List MkE) : List UInt8 := beginL ++ 10 :: (L.flatMap fun m => lineM m ++ [10])
theorem textML_twice (L : List MkE) : textML L ++ (textML L).drop 10 = textML (L ++ L) := by
  unfold textML
  rw [List.flatMap_append]
  simp [beginL]
theorem lines_textML {L : List MkE} (h : ∀ m ∈ L, (10 : UInt8) ∉ m.1.data.toList ∧ m.2.mode.toNat < 512) : linesL (textML L) = (beginL ++ [10]) :: L.map fun m => lineM m ++ [10] := by
  unfold textML
  rw [lines_cons _ _ (by decide)]
  have h2 := lines_rows (L.map lineM) (fun a ha => by
    obtain ⟨m, hm, rfl⟩ := List.mem_map.1 ha
    obtain ⟨h1, h2⟩ := h m hm
    unfold lineM
    simp only [List.mem_cons, List.mem_append, not_or]
    exact ⟨by decide, h1, by decide, (textPL_no h2).2⟩)
  rw [List.flatMap_map, List.map_map] at h2
  rw [h2]
  rfl
theorem textPL_len {p : Pr} (hs : p.size.toNat < 100000) : (textPL p).length ≤ 60 := by
  have h1 := dc_len _ hs
  have h2 := hex_len p.sum.toNat
  have h3 := perm_len p.mode.toNat
  have h4 : (textD (splitD p.time)).data.toList.length = 19 := by rw [textD_list]; simp [digL]
  unfold textPL
  split
  · simp [dirL, h3]
  · simp only [List.length_append, List.length_cons, h2, h3, h4]
    simp [fileL]
    omega
theorem textML_len {L : List MkE} (h : ∀ m ∈ L, m.1.size ≤ 200 ∧ m.2.size.toNat < 100000) : (textML L).length ≤ 10 + L.length * 263 := by
  unfold textML
  have : ∀ M : List MkE, (∀ m ∈ M, m.1.size ≤ 200 ∧ m.2.size.toNat < 100000) → (M.flatMap fun m => lineM m ++ [10]).length ≤ M.length * 263 := by
    intro M
    induction M with
    | nil => intro _; simp
    | cons m M ih =>
      intro hM
      have h1 := ih (fun k hk => hM k (List.mem_cons_of_mem _ hk))
      obtain ⟨h2, h3⟩ := hM m (List.mem_cons_self ..)
      have h4 := textPL_len h3
      have h5 : m.1.data.toList.length = m.1.size := by simp
      rw [List.flatMap_cons, List.length_append, List.length_cons, Nat.succ_mul]
      have h6 : (lineM m ++ [10]).length = m.1.data.toList.length + (textPL m.2).length + 3 := by
        unfold lineM
        simp only [List.length_append, List.length_cons, List.length_nil]
        omega
      omega
  have h1 := this L h
  simp only [List.length_append, List.length_cons, beginL, List.length_nil]
  omega
theorem jnL_memX {c : UInt8} : ∀ l : List (List UInt8), c ∈ jnL l → c = 47 ∨ ∃ x ∈ l, c ∈ x
  | [], h => by simp [jnL] at h
  | [x], h => .inr ⟨x, by simp, by simpa [jnL] using h⟩
  | x :: y :: l, h => by
    rw [jnL_cons x _ (by simp), List.mem_append, List.mem_cons] at h
    rcases h with h | h | h
    · exact .inr ⟨x, by simp, h⟩
    · exact .inl h
    · rcases jnL_memX (y :: l) h with e | ⟨z, hz, hc⟩
      · exact .inl e
      · exact .inr ⟨z, List.mem_cons_of_mem _ hz, hc⟩
theorem right_byte {p : List UInt8} (h : rightL p = true) {c : UInt8} (hc : c ∈ p) : c = 47 ∨ okB c = true := by
  rw [← jnL_spL p] at hc
  rcases jnL_memX _ hc with e | ⟨x, hx, hcx⟩
  · exact .inl e
  · right
    unfold rightL at h
    simp only [Bool.and_eq_true, List.all_eq_true] at h
    have h1 := h.2 x hx
    unfold partL at h1
    simp only [Bool.and_eq_true, List.all_eq_true] at h1
    exact h1.1.1.1.1 c hcx
theorem right_no {p : List UInt8} (h : rightL p = true) : (9 : UInt8) ∉ p ∧ (10 : UInt8) ∉ p := by
  refine ⟨fun hc => ?_, fun hc => ?_⟩
  · rcases right_byte h hc with e | e <;> revert e <;> decide
  · rcases right_byte h hc with e | e <;> revert e <;> decide
theorem right_len {p : List UInt8} (h : rightL p = true) : p.length ≤ 200 := by
  unfold rightL at h
  simp only [Bool.and_eq_true, decide_eq_true_eq] at h
  exact h.1.1.1
theorem print_dir {p : Pr} (h : fineP p = true) (hk : p.kind = 2) : (0 ≤ p.mode ∧ p.mode ≤ 511) ∧ p.time = 0 ∧ p.size = 0 ∧ p.sum = 0 := by
  unfold fineP at h
  rw [if_neg (by omega), if_pos hk] at h
  simp only [Bool.and_eq_true, decide_eq_true_eq, beq_iff_eq] at h
  exact h
theorem print_file {p : Pr} (h : fineP p = true) (hk : ¬ p.kind = 0) (hk2 : ¬ p.kind = 2) : p.kind = 1 ∧ (0 ≤ p.mode ∧ p.mode ≤ 511) ∧ (splitD p.time).Ok ∧ 0 ≤ p.size ∧ p.size ≤ 65000 := by
  unfold fineP at h
  rw [if_neg hk, if_neg hk2] at h
  by_cases h1 : p.kind = 1
  · rw [if_pos h1] at h
    simp only [Bool.and_eq_true, decide_eq_true_eq] at h
    exact ⟨h1, h.1, h.2.1, h.2.2.1, h.2.2.2.1⟩
  · rw [if_neg h1] at h
    cases h
theorem print_two {p : Pr} (h : fineP p = true) (hk : ¬ p.kind = 0) : p.mode.toNat < 512 ∧ p.size.toNat < 100000 := by
  by_cases h2 : p.kind = 2
  · obtain ⟨a, -, b, -⟩ := print_dir h h2
    omega
  · obtain ⟨-, a, -, b, c⟩ := print_file h hk h2
    omega
end Go.Proofs.YtjcbjocgachpjaaGreatDoor
/- A region that draws its order, its head of calls that make memory (quiet in a class of worlds), its tail forced. Over any program: the kit's StillTail, over a class. -/
set_option linter.unusedVariables false
set_option linter.unusedSimpArgs false
namespace Sw
open Go
section
variable {P : Program} {ops : Array Oper} {md : Region.Mode} {C : World → Prop}
def wpAnyQL (P : Program) (md : Region.Mode) (ops : Array Oper) (C : World → Prop) (n : Nat) (L : Array Bool → Act → Prop) : Nat → Array Bool → Act → Prop
  | 0, listed, a => L listed a
  | f + 1, listed, a =>
    Region.ready md ops listed ≠ [] ∧ ∀ i ∈ Region.ready md ops listed, i < n ∧ qOp P ops C i (wpAnyQL P md ops C n L f (listed.setIfInBounds i true)) a
theorem wpAny_of_headQ {n g : Nat} {L : Array Bool → Act → Prop} {Q' : Exit → Act → World → Prop} (hL : ∀ listed a w, C w → L listed a → wpAny P md ops Q' g listed a w) :
    ∀ (f : Nat) (listed : Array Bool) (a : Act) (w : World), C w → wpAnyQL P md ops C n L f listed a → wpAny P md ops Q' (f + g) listed a w
  | 0, listed, a, w, hw, h => by rw [Nat.zero_add]; exact hL _ _ _ hw h
  | f + 1, listed, a, w, hw, h => by
    rw [show f + 1 + g = (f + g) + 1 by omega]
    exact ⟨fun h0 => absurd h0 h.1, fun i hi => wpOp_of_qOp hw (fun a' w' hw' h' => wpAny_of_headQ hL f _ a' w' hw' h') (h.2 i hi).2⟩
theorem wpAnyQL_first {n i : Nat} {oi : Oper} {v : Value} {L : Array Bool → Act → Prop} (hi : ops[i]? = some oi) (hsel : ∀ (j : Nat) (o : Oper) cs b, ops[j]? = some o → o.op ≠ .select cs b)
    (hs : Region.sinkB md ops n = true) (hc : Region.chainB md ops n = true) (hn : n < ops.size) (hin : i < n)
    (hdone : ∀ listed a, L listed a → ∀ j ∈ Region.ready md ops listed, n ≤ j) :
    ∀ (f : Nat) (listed : Array Bool) (a : Act), HeadInv md ops n listed →
      (∀ j oj, ops[j]? = some oj → j ≠ i → listed.getD j true = false → (∀ e ∈ oj.after, Region.binds md e = true → e.on ≠ i) → oi.apart ops oj = true) →
      i ∈ Region.ready md ops listed → YieldsIn P ops C oi v a →
      wpAnyQL P md ops C n L f (listed.setIfInBounds i true) (a.put oi.dst v) → wpAnyQL P md ops C n L (f + 1) listed a := by
  intro f
  induction f with
  | zero =>
    intro listed a inv _ hr hy H
    have hun := (mem_ready.1 hr).1
    refine ⟨fun h => (by rw [h] at hr; cases hr), fun j hj => ?_⟩
    have hjn : j < n := by
      rcases Nat.lt_or_ge j n with h | h
      · exact h
      · exact absurd hj (tail_waits hs hc hn inv _ i rfl hin hun j h)
    refine ⟨hjn, ?_⟩
    by_cases hji : j = i
    · subst hji; exact hy.qOp hi H
    · have := hdone _ _ H j (ready_mono hj hji)
      omega
  | succ f ih =>
    intro listed a inv hfree hr hy H
    have hun := (mem_ready.1 hr).1
    refine ⟨fun h => (by rw [h] at hr; cases hr), fun j hj => ?_⟩
    have hjn : j < n := by
      rcases Nat.lt_or_ge j n with h | h
      · exact h
      · exact absurd hj (tail_waits hs hc hn inv _ i rfl hin hun j h)
    refine ⟨hjn, ?_⟩
    by_cases hji : j = i
    · subst hji; exact hy.qOp hi H
    · have h1 := (H.2 j (ready_mono hj hji)).2
      obtain ⟨hjun, oj, hoj, hall⟩ := mem_ready.1 hj
      have hnot : ∀ e ∈ oj.after, Region.binds md e = true → e.on ≠ i := fun e he hb heq => by
        have h1 := hall e he hb
        rw [heq, getD_both hun] at h1
        cases h1
      have h2 := qOp_put hoj (hfree j oj hoj hji hjun hnot) (fun cs b => hsel i oi cs b hi) (fun cs b => hsel j oj cs b hoj) hy h1
      have hfree' : ∀ k ok, ops[k]? = some ok → k ≠ i → (listed.setIfInBounds j true).getD k true = false →
          (∀ e ∈ ok.after, Region.binds md e = true → e.on ≠ i) → oi.apart ops ok = true := fun k ok hk hki hun hno => by
        refine hfree k ok hk hki ?_ hno
        by_cases hjk : j = k
        · subst hjk; exact hjun
        · rw [getD_set_ne true hjk] at hun; exact hun
      refine qOp_mono (fun a' h3 => ih (listed.setIfInBounds j true) a' (inv.set hj hjn) hfree' (ready_mono hr (Ne.symm hji)) h3.1 ?_) h2
      rw [Array.setIfInBounds_comm _ _ hji]
      exact h3.2
theorem wpAnyQL_lex {n g : Nat} {Lq : Act → Prop} (hsel : Region.noSelect ops = true) (hs : Region.sinkB md ops n = true) (hc : Region.chainB md ops n = true) (hn : n < ops.size) :
    ∀ (l : List Oper) (k : Nat) (listed : Array Bool) (a : Act), (∀ j, j < l.length → l[j]? = ops[k + j]?) → k + l.length = n → HeadInv md ops n listed →
    Region.lexHead md ops g l.length k listed = true → wpQuiet P ops C Lq l a →
    wpAnyQL P md ops C n (fun listed' a' => Region.seqB md ops g n listed' = true ∧ Lq a') l.length listed a
  | [], k, listed, a, _, hk, _, hB, h => by
    have : k = n := by simpa using hk
    subst this
    exact ⟨by simpa [Region.lexHead] using hB, h⟩
  | o :: l, k, listed, a, hl, hk, inv, hB, h => by
    have h0 : ops[k]? = some o := by simpa using (hl 0 (by simp)).symm
    simp only [List.length_cons, Region.lexHead, Bool.and_eq_true] at hB
    obtain ⟨⟨hr, hf⟩, hB'⟩ := hB
    have hkn : k < n := by simp only [List.length_cons] at hk; omega
    have hr' : k ∈ Region.ready md ops listed := by simpa using hr
    have hst : qOp P ops C k (wpQuiet P ops C Lq l) a := by unfold qOp; simp only [h0]; exact h
    obtain ⟨v, hy, hK⟩ := yieldsIn_of_qOp h0 hst
    exact wpAnyQL_first h0 (Region.noSelect_spec hsel) hs hc hn hkn (fun listed' a' hL => seqB_ready hL.1) l.length listed a inv (Region.free_spec h0 hf) hr' hy
      (wpAnyQL_lex hsel hs hc hn l (k + 1) _ _ (fun j hj => by have := hl (j + 1) (by simp; omega); simpa [Nat.add_assoc, Nat.add_comm 1 j] using this) (by simp only [List.length_cons] at hk; omega) (inv.set hr' hkn) hB' hK)
end
/-- the head's operations are quiet in the class S; the tail is walked in order, from any world of the class -/
theorem wp_region_class_tail {P : Program} (S : World → Prop) {id : Nat} {Q : Exit → Act → World → Prop} {a : Act} {w : World} {l : List Oper} (n : Nat) (hm : P.follows .mixedOrders = true) (hB : Region.lexTailB .any l.toArray n = true) (hS : S w.drew)
    (h : wpQuiet P l.toArray (fun w' => ∃ m : Held S, w' = HeldW m) (fun a' => ∀ w', (∃ m : Held S, w' = HeldW m) → wpList P l.toArray Q (l.drop n) a' w') (l.take n) a) : (Code.region id l.toArray true).wp P Q a w := by
  simp only [Region.lexTailB, Bool.and_eq_true, decide_eq_true_eq] at hB
  obtain ⟨⟨⟨⟨hsel, hn⟩, hs⟩, hc⟩, hlex⟩ := hB
  have hn' : n < l.length := by simpa using hn
  have htl : (l.take n).length = n := by simp; omega
  have hdl : (l.drop n).length = l.toArray.size - n := by simp
  have inv0 : HeadInv .any l.toArray n (Array.replicate l.toArray.size false) :=
    ⟨by simp, fun j oj _ hl => (by rw [getD_replicate_false] at hl; cases hl), fun t _ ht => getD_in (by simpa using ht) (getD_replicate_false _ _)⟩
  have H := wpAnyQL_lex (C := fun w' => ∃ m : Held S, w' = HeldW m) (md := .any) (g := l.toArray.size - n) hsel hs hc hn (l.take n) 0 _ a (fun j hj => by
    have hj' : j < n := by rw [htl] at hj; exact hj
    simp [hj']) (by simpa using htl) inv0 (by rw [htl]; exact hlex) h
  refine wp_region_any hm ?_
  have := wpAny_of_headQ (Q' := Q) (g := l.toArray.size - n) (fun listed a' w' hw' hL => by
    have := wpAny_of_seq (md := .any) (Q' := Q) (l.drop n) n listed a' w' (fun j => by simp [List.getElem?_drop]) (by rw [hdl]; exact hL.1) (hL.2 w' hw')
    rwa [hdl] at this) _ _ _ _ (held_mk (S := S) w.drew hS) H
  rw [htl, show n + (l.toArray.size - n) = l.toArray.size by omega] at this
  exact this
end Sw
/- The contract of node.Text, at a print that is one of a file or of a folder. -/
set_option linter.unusedVariables false
set_option linter.unusedSimpArgs false
namespace Go.Proofs.YtjcbjocgachpjaaGreatDoor
open Go Go.RowKit
open Sw
/-- strings.Join of a row that fills a block -/
theorem join_blk (W : World) (b n : Nat) (xs : List ByteArray) (sep : ByteArray) (hn : xs.length = n) (hB : Blk W b 9 (xs.map Value.string).toArray) (hl : n ≤ 100) (htot : (Lib.join (xs.map (·.data.toList)) sep.data.toList).length ≤ 1000000) :
    Calls Tryz.prog 23 #[.slice (some ⟨b, 0, none⟩) n n, .string sep] W fun e w' => e = .returned (.string (mkB (Lib.join (xs.map (·.data.toList)) sep.data.toList))) ∧ Below W.heap.size W w' := by
  subst hn
  exact Tryz.strings_Join b 0 xs.length xs sep W (fun j y hj => by
    have := hB.cell j
    rw [Nat.zero_add, this]
    simp [hj]) hB.lt (by omega) (by omega) (by omega)
theorem textPL_file {p : Pr} (hk : ¬ p.kind = 2) : Lib.join [fileL, permL p.mode.toNat, (textD (splitD p.time)).data.toList, dcW p.size.toNat [], hexL p.sum.toNat] [32] = textPL p := by
  unfold textPL
  rw [if_neg hk]
  unfold Lib.join
  simp [List.intercalate, List.intersperse]
set_option maxRecDepth 100000 in
set_option maxHeartbeats 2000000 in
theorem nodeText_dir (w : World) (m : Nat) (hm : m < 512) :
    Calls Tryz.prog 24 #[.agg (Pr.c ⟨2, m, 0, 0, 0⟩)] w fun e w' => e = .returned (.string (mkB (textPL ⟨2, m, 0, 0, 0⟩))) ∧ Below w.heap.size w w' := by
  have hfi : fineP ⟨2, m, 0, 0, 0⟩ = true := by
    unfold fineP
    rw [if_neg (show ¬ (2 : Int) = 0 by decide), if_pos rfl, decide_eq_true (show (0 : Int) ≤ m ∧ (m : Int) ≤ 511 by omega)]
    rfl
  have hF := fun W => nodeFine_any W ⟨2, m, 0, 0, 0⟩ (show (0 : Int) ≤ 0 by decide) (show (0 : Int) < 4294967296 by decide)
  rw [hfi] at hF
  have hp := fun W => perm_any W m hm
  have hpl : (permL m).length = 9 := perm_len m
  have htx : ({ data := #[100, 105, 114, 32] } : ByteArray) ++ (⟨(permL m).toArray⟩ : ByteArray) = mkB (textPL ⟨2, m, 0, 0, 0⟩) := by
    unfold textPL mkB
    rw [if_pos rfl]
    apply ByteArray.ext
    simp [dirL]
  have hsz : (⟨(permL m).toArray⟩ : ByteArray).size = 9 := hpl
  obtain ⟨s, hs⟩ : ∃ s : ByteArray, (⟨(permL m).toArray⟩ : ByteArray) = s := ⟨_, rfl⟩
  obtain ⟨t, ht⟩ : ∃ t : ByteArray, mkB (textPL ⟨2, m, 0, 0, 0⟩) = t := ⟨_, rfl⟩
  rw [hs] at hp htx hsz
  rw [ht] at htx ⊢
  unfold Pr.c at hF ⊢
  simp only at hF ⊢
  have HP := Lib.hid hp; clear hp
  have HF := Lib.hid hF; clear hF
  obtain ⟨W, hW⟩ : ∃ W, w.alloc (.cells #[.int .i64 2, .int .i64 m, .int .u32 0, .int .i64 0, .int .u32 0] 55) = W := ⟨_, rfl⟩
  have hB : Blk W w.heap.size 55 #[.int .i64 2, .int .i64 m, .int .u32 0, .int .i64 0, .int .u32 0] := by rw [← hW]; exact Blk.new _ _ _
  have hb0 : Below w.heap.size w W := by rw [← hW]; exact (Below.refl _ w).alloc (Nat.le_refl _) _
  have HW := Lib.hid (And.intro hW (And.intro hB hb0))
  have x0 := hB.cell 0
  have x1 := hB.cell 1
  have x2 := hB.cell 2
  have x3 := hB.cell 3
  have x4 := hB.cell 4
  simp only [List.getElem?_toArray, List.getElem?_cons_succ, List.getElem?_cons_zero] at x0 x1 x2 x3 x4
  clear hW hB hb0 hs ht hfi
  go_enter Tryz.func24, Tryz.ntmps24
  go_upto_region 1 with fail
  rw [HW.out.1]
  go_wp2_with fail
  refine (HF.out W).mono ?_
  rintro e w1 ⟨rfl, hb1⟩
  have hB1 := HW.out.2.1.below hb1 HW.out.2.1.lt
  have y0 := hB1.cell 0
  have y1 := hB1.cell 1
  simp only [List.getElem?_toArray, List.getElem?_cons_succ, List.getElem?_cons_zero] at y0 y1
  have H1 := Lib.hid (HW.out.2.2.trans (hb1.mono HW.out.2.2.size))
  clear hb1 hB1 x0 x1 x2 x3 x4
  go_wp2_with fail
  refine (HP.out w1).mono ?_
  rintro e w2 ⟨rfl, hb2⟩
  have H2 := Lib.hid (H1.out.trans (hb2.mono H1.out.size))
  clear hb2
  go_wp2_with fail
  go_ret
  exact ⟨rfl, H2.out⟩
set_option maxRecDepth 100000 in
set_option maxHeartbeats 4000000 in
theorem nodeText_file (w : World) (m z u : Nat) (t : Int) (hm : m < 512) (hok : (splitD t).Ok) (ht0 : 0 ≤ t) (ht1 : t < 4294967296) (hz : z ≤ 65000) (hu : u < 4294967296) (hzu : z = 0 → u = 0) :
    Calls Tryz.prog 24 #[.agg (Pr.c ⟨1, m, t, z, u⟩)] w fun e w' => e = .returned (.string (mkB (textPL ⟨1, m, t, z, u⟩))) ∧ Below w.heap.size w w' := by
  have hfi : fineP ⟨1, m, t, z, u⟩ = true := by
    unfold fineP
    rw [if_neg (show ¬ (1 : Int) = 0 by decide), if_neg (show ¬ (1 : Int) = 2 by decide), if_pos rfl, decide_eq_true (show (0 : Int) ≤ m ∧ (m : Int) ≤ 511 by omega), decide_eq_true hok]
    simp only [Bool.true_and]
    rw [decide_eq_true (show (0 : Int) ≤ z by omega), decide_eq_true (show (z : Int) ≤ 65000 by omega)]
    simp only [Bool.true_and]
    by_cases h : z = 0
    · rw [hzu h, h]; rfl
    · rw [decide_eq_true (show (0 : Int) < z by omega)]; rfl
  have hF := fun W => nodeFine_any W ⟨1, m, t, z, u⟩ ht0 ht1
  rw [hfi] at hF
  have hp := fun W => perm_any W m hm
  have hx := fun W => text_any W t ht0 ht1
  unfold textOr at hx
  rw [if_pos hok] at hx
  have hd := fun W => nodeDec_any W z (by omega)
  have hh := fun W => hex_any W u hu
  have htx := textPL_file (p := ⟨1, m, t, z, u⟩) (show ¬ (1 : Int) = 2 by decide)
  have htl := textPL_len (p := ⟨1, m, t, z, u⟩) (by simp; omega)
  rw [← htx] at htl ⊢
  simp only [Int.toNat_natCast] at htl ⊢
  obtain ⟨s1, hs1⟩ : ∃ s : ByteArray, (⟨(permL m).toArray⟩ : ByteArray) = s := ⟨_, rfl⟩
  obtain ⟨s2, hs2⟩ : ∃ s : ByteArray, textD (splitD t) = s := ⟨_, rfl⟩
  obtain ⟨s3, hs3⟩ : ∃ s : ByteArray, (⟨(dcW z []).toArray⟩ : ByteArray) = s := ⟨_, rfl⟩
  obtain ⟨s4, hs4⟩ : ∃ s : ByteArray, (⟨(hexL u).toArray⟩ : ByteArray) = s := ⟨_, rfl⟩
  have e1 : permL m = s1.data.toList := by rw [← hs1]
  have e3 : dcW z [] = s3.data.toList := by rw [← hs3]
  have e4 : hexL u = s4.data.toList := by rw [← hs4]
  rw [hs1] at hp
  rw [hs2] at hx htl ⊢
  rw [hs3] at hd
  rw [hs4] at hh
  rw [e1, e3, e4] at htl ⊢
  have HJ := Lib.hid (fun V b (hb : Blk V b 9 #[.string ⟨#[102, 105, 108, 101]⟩, .string s1, .string s2, .string s3, .string s4]) => join_blk V b 5 [⟨#[102, 105, 108, 101]⟩, s1, s2, s3, s4] ⟨#[32]⟩ rfl hb (by omega) (by
    have : Lib.join (List.map (·.data.toList) [(⟨#[102, 105, 108, 101]⟩ : ByteArray), s1, s2, s3, s4]) (⟨#[32]⟩ : ByteArray).data.toList = Lib.join [fileL, s1.data.toList, s2.data.toList, s3.data.toList, s4.data.toList] [32] := rfl
    rw [this]; omega))
  have hjr : Lib.join (List.map (·.data.toList) [(⟨#[102, 105, 108, 101]⟩ : ByteArray), s1, s2, s3, s4]) (⟨#[32]⟩ : ByteArray).data.toList = Lib.join [fileL, s1.data.toList, s2.data.toList, s3.data.toList, s4.data.toList] [32] := rfl
  rw [hjr] at HJ
  obtain ⟨R, hR⟩ : ∃ R, mkB (Lib.join [fileL, s1.data.toList, s2.data.toList, s3.data.toList, s4.data.toList] [32]) = R := ⟨_, rfl⟩
  rw [hR] at HJ ⊢
  unfold Pr.c at hF ⊢
  simp only at hF ⊢
  clear hs1 hs2 hs3 hs4 e1 e3 e4 htl htx hR hjr
  have HF := Lib.hid hF; clear hF
  obtain ⟨W, hW⟩ : ∃ W, w.alloc (.cells #[.int .i64 1, .int .i64 m, .int .u32 t, .int .i64 z, .int .u32 u] 55) = W := ⟨_, rfl⟩
  have hB : Blk W w.heap.size 55 #[.int .i64 1, .int .i64 m, .int .u32 t, .int .i64 z, .int .u32 u] := by rw [← hW]; exact Blk.new _ _ _
  have hb0 : Below w.heap.size w W := by rw [← hW]; exact (Below.refl _ w).alloc (Nat.le_refl _) _
  have HW := Lib.hid (And.intro hW (And.intro hB hb0))
  have x0 := hB.cell 0
  have x1 := hB.cell 1
  have x2 := hB.cell 2
  have x3 := hB.cell 3
  have x4 := hB.cell 4
  simp only [List.getElem?_toArray, List.getElem?_cons_succ, List.getElem?_cons_zero] at x0 x1 x2 x3 x4
  clear hW hB hb0 hfi
  have HC := Lib.hid (And.intro hp (And.intro hx (And.intro hd hh))); clear hp hx hd hh
  go_enter Tryz.func24, Tryz.ntmps24
  go_upto_region 1 with fail
  rw [HW.out.1]
  go_wp2_with fail
  refine (HF.out W).mono ?_
  rintro e w1 ⟨rfl, hb1⟩
  have hB1 := HW.out.2.1.below hb1 HW.out.2.1.lt
  have H1 := Lib.hid (HW.out.2.2.trans (hb1.mono HW.out.2.2.size))
  have y0 := hB1.cell 0
  simp only [List.getElem?_toArray, List.getElem?_cons_succ, List.getElem?_cons_zero] at y0
  have k1 : ∀ m' : Held (Aft w1), (HeldW m').cell? ⟨w.heap.size, 1, none⟩ = some (.int .i64 m) := fun m' => (Aft.cell m' hB1.lt).trans (hB1.cell 1)
  have k2 : ∀ m' : Held (Aft w1), (HeldW m').cell? ⟨w.heap.size, 2, none⟩ = some (.int .u32 t) := fun m' => (Aft.cell m' hB1.lt).trans (hB1.cell 2)
  have k3 : ∀ m' : Held (Aft w1), (HeldW m').cell? ⟨w.heap.size, 3, none⟩ = some (.int .i64 z) := fun m' => (Aft.cell m' hB1.lt).trans (hB1.cell 3)
  have k4 : ∀ m' : Held (Aft w1), (HeldW m').cell? ⟨w.heap.size, 4, none⟩ = some (.int .u32 u) := fun m' => (Aft.cell m' hB1.lt).trans (hB1.cell 4)
  have HP := Lib.hid (fun m' : Held (Aft w1) => HC.out.1 (HeldW m'))
  have HX := Lib.hid (fun m' : Held (Aft w1) => HC.out.2.1 (HeldW m'))
  have HD := Lib.hid (fun m' : Held (Aft w1) => HC.out.2.2.1 (HeldW m'))
  have HH := Lib.hid (fun m' : Held (Aft w1) => HC.out.2.2.2 (HeldW m'))
  clear hb1 hB1 x0 x1 x2 x3 x4
  haveI := Aft.some w1
  go_upto_region 8 with fail
  refine wp_region_class_tail (Aft w1) 12 (by kernel_rfl) (by kernel_rfl) (Aft.start w1) ?_
  simp only [List.take_succ_cons, List.take_zero, List.drop_succ_cons, List.drop_zero]
  repeat (go_big_quiet_step (first | with_reducible exact held_below Aft.keep (HP.out _) | with_reducible exact held_below Aft.keep (HX.out _) | with_reducible exact held_below Aft.keep (HD.out _) | with_reducible exact held_below Aft.keep (HH.out _)))
  refine wpQuiet_nil ?_
  rintro _ ⟨nn, rfl⟩
  have hA : Below w1.heap.size w1 (HeldW nn) := HeldW_spec nn
  have H2 := Lib.hid (H1.out.trans (hA.mono H1.out.size))
  clear hA
  obtain ⟨V, hV⟩ : ∃ V, HeldW nn = V := ⟨_, rfl⟩
  rw [hV] at H2 ⊢
  clear hV k1 k2 k3 k4
  go_wp2_with fail
  refine (HJ.out _ _ (Blk.new V _ _)).mono ?_
  rintro e w3 ⟨rfl, hb3⟩
  have H3 := Lib.hid ((H2.out.alloc H2.out.size _).trans (hb3.mono (by have := H2.out.size; simp; omega)))
  clear hb3
  go_wp2_with fail
  go_ret
  exact ⟨rfl, H3.out⟩
end Go.Proofs.YtjcbjocgachpjaaGreatDoor
/- The contract of node.number. -/
set_option linter.unusedVariables false
set_option linter.unusedSimpArgs false
namespace Sw
open Go
theorem idx_max (c : UInt8) : max 0 (Lib.indexByte ([48, 49, 50, 51, 52, 53, 54, 55, 56, 57, 97, 98, 99, 100, 101, 102] : List UInt8) c) = (idxH c : Int) := by
  have : ∀ k : Fin 256, max 0 (Lib.indexByte ([48, 49, 50, 51, 52, 53, 54, 55, 56, 57, 97, 98, 99, 100, 101, 102] : List UInt8) (UInt8.ofNat k.1)) = (idxH (UInt8.ofNat k.1) : Int) := by decide +kernel
  have h := this ⟨c.toNat, c.toNat_lt⟩
  simp only [UInt8.ofNat_toNat] at h
  exact h
theorem idxH_lt (c : UInt8) : idxH c < 16 := by
  have : ∀ k : Fin 256, idxH (UInt8.ofNat k.1) < 16 := by decide +kernel
  have h := this ⟨c.toNat, c.toNat_lt⟩
  simp only [UInt8.ofNat_toNat] at h
  exact h
theorem numU_lt (b : Nat) (hb : b ≤ 16) : ∀ l : List UInt8, numU b l < 16 ^ l.length := by
  intro l
  induction l with
  | nil => simp [numU]
  | cons c l ih =>
    rw [numU_cons, List.length_cons, Nat.pow_succ]
    have h1 := idxH_lt c
    have h2 : b ^ l.length ≤ 16 ^ l.length := Nat.pow_le_pow_left hb _
    have h3 : idxH c * b ^ l.length ≤ 15 * 16 ^ l.length := Nat.mul_le_mul (by omega) h2
    omega
end Sw
namespace Go.Proofs.YtjcbjocgachpjaaGreatDoor
open Go Go.RowKit
open Sw
set_option maxRecDepth 100000 in
set_option maxHeartbeats 1000000 in
theorem nodeNumber_any (w : World) (s : ByteArray) (b : Nat) (hb : b ≤ 16) (hs : s.size ≤ 10) :
    Calls Tryz.prog 136 #[.string s, .int .u64 b] w fun e w' => e = .returned (.int .u64 (numU b s.data.toList : Nat)) ∧ w = w' := by
  have hlen : s.data.toList.length = s.size := by simp
  have HI := Lib.hid (fun (c : UInt8) => (Tryz.strings_IndexByte ⟨#[48, 49, 50, 51, 52, 53, 54, 55, 56, 57, 97, 98, 99, 100, 101, 102]⟩ (c.toNat : Int) w))
  have hmin : min (s.size : Int) 10 = s.size := by omega
  go_enter Tryz.func136, Tryz.ntmps136
  go_wp2_with fail
  go_loopw [4, 5, 9] (fun nv _ iv wr => ∃ i : Nat, i ≤ s.size ∧ iv = .int .i64 i ∧ nv = .int .u64 (numU b (s.data.toList.take i) : Nat) ∧ w = wr) (fun _ _ iv _ => s.size - (intOf iv).toNat)
  case atStart => exact ⟨0, Nat.zero_le _, rfl, rfl, rfl⟩
  case round =>
    obtain ⟨i, hi, rfl, rfl, rfl⟩ := hrel
    by_cases hlt : i < s.size
    · have hil : i < s.data.toList.length := by omega
      have hsn := numU_snoc b (s.data.toList.take i) s.data.toList[i]
      rw [← List.take_succ_eq_append_getElem hil] at hsn
      have hel : s.data.toList[i]'hil = s[i] := rfl
      rw [hel] at hsn
      have hlt1 := numU_lt b hb (s.data.toList.take i)
      have hle : 16 ^ (s.data.toList.take i).length ≤ 16 ^ 9 := Nat.pow_le_pow_right (by decide) (by rw [List.length_take]; omega)
      have hm1 : numU b (s.data.toList.take i) * b ≤ numU b (s.data.toList.take i) * 16 := Nat.mul_le_mul_left _ hb
      have hc := HI.out s[i]
      have hx := idx_max s[i]
      have hx2 := idxH_lt s[i]
      have e1 : ((s[i].toNat : Int).toNat.toUInt8) = s[i] := by simp
      rw [e1] at hc
      obtain ⟨J, hJ⟩ : ∃ J, Lib.indexByte ([48, 49, 50, 51, 52, 53, 54, 55, 56, 57, 97, 98, 99, 100, 101, 102] : List UInt8) s[i] = J := ⟨_, rfl⟩
      rw [hJ] at hc hx
      have HC := Lib.hid hc; clear hc hJ e1 hel
      obtain ⟨q, hq⟩ : ∃ q, numU b (s.data.toList.take i) = q := ⟨_, rfl⟩
      rw [hq] at hsn hlt1 hm1 ⊢
      obtain ⟨d, hd⟩ : ∃ d, idxH s[i] = d := ⟨_, rfl⟩
      rw [hd] at hsn hx hx2
      have HS := Lib.hid hsn; clear hsn hq hd
      obtain ⟨qb, hqb⟩ : ∃ qb, q * b = qb := ⟨_, rfl⟩
      have hqi : (q : Int) * (b : Int) = (qb : Int) := by rw [← hqb]; exact (Int.natCast_mul q b).symm
      rw [hqb] at HS hm1
      have hqw : qb < 1099511627776 := by
        have : (16 : Nat) ^ 9 = 68719476736 := rfl
        omega
      clear hlt1 hle hm1 hqb
      have hi1 : (i : Int) < s.size := by omega
      go_wp2_with fail
      refine HC.out.mono ?_
      rintro e w1 ⟨rfl, rfl⟩
      go_wp2_with fail
      exact ⟨⟨i + 1, by omega, by go_num, by rw [HS.out, Int.natCast_add], by first | trivial | rfl⟩, by simp [intOf]; omega⟩
    · obtain rfl : i = s.size := by omega
      rw [List.take_of_length_le (by omega)]
      go_wp2_with fail
      go_ret
      exact ⟨rfl, rfl⟩
end Go.Proofs.YtjcbjocgachpjaaGreatDoor
