/- Several texts, joined for the limit of sixty files; each one opens with its own comment. -/
import Derived.Test.YtmpgmgjokliceaaGreatDoorJoin8
import Derived.Test.YtmpgmgjokliceaaGreatDoorJoin9
/- Plain laws of SortedAlike: rows that rise are told by their members; what is put in any order stands alike. -/
set_option linter.unusedVariables false
set_option linter.unusedSimpArgs false
namespace Sw
section
variable {κ ν : Type} {c : κ → κ → Int}
theorem up_ext (hO : Ord3 c) : ∀ (l m : List (κ × ν)), Up c l → Up c m → (∀ x, x ∈ l ↔ x ∈ m) → l = m
  | [], m, _, _, h => by
    cases m with
    | nil => rfl
    | cons e m => exact absurd ((h e).2 (List.mem_cons_self ..)) (by simp)
  | a :: l, [], _, _, h => absurd ((h a).1 (List.mem_cons_self ..)) (by simp)
  | a :: l, b :: m, hl, hm, h => by
    have hab : a = b := by
      have h1 := (h a).1 (List.mem_cons_self ..)
      have h2 := (h b).2 (List.mem_cons_self ..)
      rw [List.mem_cons] at h1 h2
      rcases h1 with h1 | h1
      · exact h1
      · rcases h2 with h2 | h2
        · exact h2.symm
        · have e1 := hm.head a h1
          have e2 := hl.head b h2
          have := hO.neg a.1 b.1
          omega
    subst hab
    congr 1
    refine up_ext hO l m hl.tail hm.tail fun x => ?_
    have hx := h x
    rw [List.mem_cons, List.mem_cons] at hx
    constructor
    · intro hm'
      rcases hx.1 (.inr hm') with e | e
      · subst e
        have := hl.head _ hm'
        have := hO.self x.1
        omega
      · exact e
    · intro hm'
      rcases hx.2 (.inr hm') with e | e
      · subst e
        have := hm.head _ hm'
        have := hO.self x.1
        omega
      · exact e
/-- all of a row, put one behind another -/
def putL (c : κ → κ → Int) (l : List (κ × ν)) : List (κ × ν) := l.foldl (fun m e => putN c e.1 e.2 m) []
theorem putL_snoc (l : List (κ × ν)) (e : κ × ν) : putL c (l ++ [e]) = putN c e.1 e.2 (putL c l) := by
  unfold putL
  rw [List.foldl_append]
  rfl
/-- keys that differ -/
def Unlike (l : List (κ × ν)) : Prop := l.Pairwise fun a b => a.1 ≠ b.1
theorem put_new (hO : Ord3 c) (k : κ) (v : ν) (l : List (κ × ν)) (hu : Up c l) (hk : ∀ x ∈ l, x.1 ≠ k) : (∀ x, x ∈ putN c k v l ↔ x = (k, v) ∨ x ∈ l) ∧ (putN c k v l).length = l.length + 1 := by
  have hin : inN c k l = false := by
    cases h : inN c k l with
    | false => rfl
    | true =>
      exfalso
      have hlt := inN_lt hO h
      rw [inN_at hO hlt, decide_eq_true_eq] at h
      exact hk _ (List.getElem_mem hlt) (hO.zero _ _ h)
  constructor
  · intro x
    rw [put_miss k v l hin]
    have ht : x ∈ l ↔ x ∈ l.take (lbN c k l) ∨ x ∈ l.drop (lbN c k l) := by
      rw [← List.mem_append, List.take_append_drop]
    rw [ht, List.mem_append, List.mem_cons]
    constructor
    · rintro (h | h | h)
      · exact .inr (.inl h)
      · exact .inl h
      · exact .inr (.inr h)
    · rintro (h | h | h)
      · exact .inr (.inl h)
      · exact .inl h
      · exact .inr (.inr h)
  · rw [put_len, hin]; rfl
/-- what is put of unlike keys: it rises, and has these members -/
theorem putL_all (hO : Ord3 c) : ∀ n (l : List (κ × ν)), l.length = n → Unlike l → Up c (putL c l) ∧ (∀ x, x ∈ putL c l ↔ x ∈ l) ∧ (putL c l).length = l.length
  | 0, l, hl, _ => by
    obtain rfl : l = [] := List.length_eq_zero_iff.1 hl
    exact ⟨List.Pairwise.nil, fun x => Iff.rfl, rfl⟩
  | n + 1, l, hl, hu => by
    have hne : l ≠ [] := by intro e; subst e; simp at hl
    obtain ⟨r, e, rfl⟩ : ∃ r e, l = r ++ [e] := ⟨l.dropLast, l.getLast hne, (List.dropLast_concat_getLast hne).symm⟩
    unfold Unlike at hu
    rw [List.pairwise_append] at hu
    obtain ⟨h1, h2, h3⟩ := putL_all hO n r (by simpa using hl) hu.1
    rw [putL_snoc]
    have hk : ∀ x ∈ putL c r, x.1 ≠ e.1 := fun x hx => hu.2.2 x ((h2 x).1 hx) e (List.mem_singleton.2 rfl)
    obtain ⟨h4, h5⟩ := put_new hO e.1 e.2 _ h1 hk
    refine ⟨put_up hO _ _ _ h1, fun x => ?_, ?_⟩
    · rw [h4, h2, List.mem_append, List.mem_singleton]
      exact Or.comm
    · rw [h5, h3]; simp
theorem Unlike.rev {l : List (κ × ν)} (h : Unlike l) : Unlike l.reverse := by
  unfold Unlike at *
  rw [List.pairwise_reverse]
  exact h.imp fun h => Ne.symm h
theorem putL_alike (hO : Ord3 c) {l : List (κ × ν)} (h : Unlike l) : putL c l.reverse = putL c l := by
  obtain ⟨a1, a2, _⟩ := putL_all hO _ l rfl h
  obtain ⟨b1, b2, _⟩ := putL_all hO _ l.reverse rfl h.rev
  refine up_ext hO _ _ b1 a1 fun x => ?_
  rw [a2, b2, List.mem_reverse]
/-- the first of what is left is dropped -/
theorem drop_first (hO : Ord3 c) (l : List (κ × ν)) (j : Nat) (hj : j < l.length) : inN c (l[j]'hj).1 (l.drop j) = true ∧ dropN c (l[j]'hj).1 (l.drop j) = l.drop (j + 1) := by
  have hd : l.drop j = l[j] :: l.drop (j + 1) := List.drop_eq_getElem_cons hj
  have h0 := hO.self (l[j]'hj).1
  rw [hd]
  unfold inN dropN
  rw [if_neg (by omega), if_neg (by omega), if_pos h0, decide_eq_true h0]
  exact ⟨rfl, rfl⟩
/-- a row whose keys differ, found one by one -/
theorem unlike_of {l : List (κ × ν)} (h : ∀ j (hj : j < l.length) k (hk : k < j), (l[k]'(by omega)).1 ≠ (l[j]'hj).1) : Unlike l := by
  unfold Unlike
  rw [List.pairwise_iff_getElem]
  intro i j hi hj hij
  exact h j hj i hij
theorem putL_le : ∀ (l m : List (κ × ν)), (l.foldl (fun m e => putN c e.1 e.2 m) m).length ≤ m.length + l.length
  | [], m => by simp
  | e :: l, m => by
    rw [List.foldl_cons]
    have h1 := putL_le l (putN c e.1 e.2 m)
    have h2 := put_len (c := c) e.1 e.2 m
    have h3 : (putN c e.1 e.2 m).length ≤ m.length + 1 := by rw [h2]; split <;> omega
    simp only [List.length_cons]
    omega
theorem putL_length (l : List (κ × ν)) : (putL c l).length ≤ l.length := by
  have := putL_le (c := c) l []
  unfold putL
  simpa using this
/-- the keys of a row are dropped, one behind another -/
def dropA (c : κ → κ → Int) (pre xs : List (κ × ν)) : List (κ × ν) := pre.foldl (fun m e => dropN c e.1 m) xs
theorem dropA_snoc (pre xs : List (κ × ν)) (x : κ × ν) : dropA c (pre ++ [x]) xs = dropN c x.1 (dropA c pre xs) := by
  unfold dropA
  rw [List.foldl_append]
  rfl
theorem dropA_len : ∀ (pre xs : List (κ × ν)), (dropA c pre xs).length ≤ xs.length
  | [], xs => Nat.le_refl _
  | e :: pre, xs => by
    unfold dropA
    rw [List.foldl_cons]
    exact Nat.le_trans (dropA_len pre _) (dropN_len e.1 xs)
theorem dropA_take (hO : Ord3 c) (xs : List (κ × ν)) : ∀ j, j ≤ xs.length → dropA c (xs.take j) xs = xs.drop j
  | 0, _ => by simp [dropA]
  | j + 1, h => by
    rw [List.take_succ_eq_append_getElem h, dropA_snoc, dropA_take hO xs j (by omega)]
    exact (drop_first hO xs j h).2
theorem dropA_all (hO : Ord3 c) (xs : List (κ × ν)) : dropA c xs xs = [] := by
  have := dropA_take hO xs xs.length (Nat.le_refl _)
  rwa [List.take_length, List.drop_length] at this
/-- what is told is there to be dropped -/
theorem dropA_in (hO : Ord3 c) (xs pre : List (κ × ν)) (x : κ × ν) (h : (pre ++ [x]) <+: xs) : inN c x.1 (dropA c pre xs) = true := by
  obtain ⟨r, rfl⟩ := h
  have hj : pre.length < ((pre ++ [x]) ++ r).length := by simp
  have h1 := dropA_take hO ((pre ++ [x]) ++ r) pre.length (by omega)
  have h2 := (drop_first hO ((pre ++ [x]) ++ r) pre.length hj).1
  have h3 : ((pre ++ [x]) ++ r).take pre.length = pre := by rw [List.append_assoc]; exact List.take_left
  rw [h3] at h1
  rw [h1]
  simpa using h2
end
end Sw
/- The reference's rows of items and the tree's: plain. -/
set_option linter.unusedVariables false
set_option linter.unusedSimpArgs false
namespace Sw
open Go
open Go.Proofs.YtmpgmgjokliceaaGreatDoor (partsS)
section
variable {κ ν : Type} {c : κ → κ → Int}
/-- one round of the reference's Set -/
def stepG (c : κ → κ → Int) (k : κ) (v : ν) (s : Bool × List (κ × ν)) (x : κ × ν) : Bool × List (κ × ν) :=
  let s1 := if s.1 = false ∧ 0 ≤ c x.1 k then (true, s.2 ++ [(k, v)]) else s
  if c x.1 k = 0 then s1 else (s1.1, s1.2 ++ [x])
def setG (c : κ → κ → Int) (k : κ) (v : ν) (l : List (κ × ν)) : List (κ × ν) := let s := l.foldl (stepG c k v) (false, []); if s.1 = true then s.2 else s.2 ++ [(k, v)]
theorem stepG_len (k : κ) (v : ν) (s : Bool × List (κ × ν)) (x : κ × ν) : (stepG c k v s x).2.length ≤ s.2.length + 2 := by
  unfold stepG
  dsimp only
  split <;> split <;> simp
theorem foldG_len (k : κ) (v : ν) : ∀ (l : List (κ × ν)) (s : Bool × List (κ × ν)), (l.foldl (stepG c k v) s).2.length ≤ s.2.length + 2 * l.length
  | [], s => by simp
  | x :: l, s => by
    have := foldG_len k v l (stepG c k v s x)
    have := stepG_len (c := c) k v s x
    simp only [List.foldl_cons, List.length_cons]
    omega
theorem foldG_step (k : κ) (v : ν) (l : List (κ × ν)) (i : Nat) (h : i < l.length) : (l.take (i + 1)).foldl (stepG c k v) (false, []) = stepG c k v ((l.take i).foldl (stepG c k v) (false, [])) l[i] := by
  rw [List.take_succ_eq_append_getElem h, List.foldl_append]
  rfl
theorem foldG_true (k : κ) (v : ν) : ∀ (l : List (κ × ν)) (o : List (κ × ν)), l.foldl (stepG c k v) (true, o) = (true, o ++ l.filter fun e => !decide (c e.1 k = 0))
  | [], o => by simp
  | x :: l, o => by
    rw [List.foldl_cons]
    have h1 : stepG c k v (true, o) x = (true, if c x.1 k = 0 then o else o ++ [x]) := by
      unfold stepG
      by_cases hx : c x.1 k = 0 <;> simp [hx]
    rw [h1, foldG_true k v l]
    by_cases hx : c x.1 k = 0
    · rw [if_pos hx, List.filter_cons_of_neg (by simpa using hx)]
    · rw [if_neg hx, List.filter_cons_of_pos (by simpa using hx), List.append_assoc]; rfl
theorem foldG_false (hO : Ord3 c) (k : κ) (v : ν) : ∀ (l : List (κ × ν)) (o : List (κ × ν)), Up c l → (let s := l.foldl (stepG c k v) (false, o); if s.1 = true then s.2 else s.2 ++ [(k, v)]) = o ++ putN c k v l
  | [], o, _ => by simp [putN]
  | x :: l, o, hu => by
    rw [List.foldl_cons]
    unfold putN
    by_cases h1 : 0 ≤ c x.1 k
    · have hs : stepG c k v (false, o) x = (true, if c x.1 k = 0 then o ++ [(k, v)] else o ++ [(k, v)] ++ [x]) := by
        unfold stepG
        by_cases hx : c x.1 k = 0 <;> simp [hx, h1]
      rw [hs, foldG_true]
      have hge : l.filter (fun e => !decide (c e.1 k = 0)) = l := List.filter_eq_self.2 fun y hy => by
        have h2 := hu.head y hy
        have h3 : ¬ c y.1 k = 0 := fun e => by
          have := hO.zero _ _ e
          rw [this] at h2
          omega
        simpa using h3
      dsimp only
      rw [if_pos rfl, hge]
      have h2 : ¬ c x.1 k < 0 := by omega
      by_cases hx : c x.1 k = 0
      · simp [hx]
      · simp [hx, h2]
    · have hs : stepG c k v (false, o) x = (false, o ++ [x]) := by
        unfold stepG
        have hx : ¬ c x.1 k = 0 := by omega
        simp [hx, h1]
      rw [hs, foldG_false hO k v l _ hu.tail, if_pos (by omega), List.append_assoc]
      rfl
theorem setG_eq (hO : Ord3 c) (k : κ) (v : ν) (l : List (κ × ν)) (h : Up c l) : setG c k v l = putN c k v l := by
  have := foldG_false hO k v l [] h
  rw [List.nil_append] at this
  exact this
end
/-- a tree's keys are paths -/
def Paths (xs : List NE) : Prop := ∀ e ∈ xs, rightL e.1.data.toList = true
theorem Paths.put {xs : List NE} (h : Paths xs) {p : ByteArray} (hp : rightL p.data.toList = true) (n : Nd) : Paths (putN ordS p n xs) := fun e he => by
  rcases put_mem p n xs e he with rfl | he
  · exact hp
  · exact h e he
theorem Paths.ofPut {xs : List NE} (h : Paths xs) (p : ByteArray) (n : Nd) : Paths (putT xs p n) := by
  unfold putT
  by_cases h0 : mayT xs p n = 0
  · rw [if_pos h0]
    cases hr : rightL p.data.toList with
    | true => exact h.put hr n
    | false =>
      unfold mayT at h0
      rw [if_pos hr] at h0
      cases h0
  · rw [if_neg h0]
    exact h
theorem Paths.ofDrop {xs : List NE} (h : Paths xs) (p : ByteArray) : Paths (dropT xs p) := by
  unfold dropT
  split
  · exact fun e he => h e (drop_mem p xs e he)
  · exact h
/-- the first entry behind a path tells whether something is under it -/
theorem holds_any : ∀ (xs : List NE) (p : ByteArray), Up ordS xs → Paths xs → holdsT xs p = xs.any fun e => inS (upsS e.1) p
  | [], p, _, _ => rfl
  | x :: xs, p, hu, hp => by
    have hno : ∀ e : NE, ordS e.1 p ≤ 0 → inS (upsS e.1) p = false := fun e he => by
      cases hq : inS (upsS e.1) p with
      | false => rfl
      | true =>
        have h1 := ups_order ((inS_iff _ _).1 hq)
        have h2 := ordS_neg p e.1
        omega
    have ih := holds_any xs p hu.tail (fun e he => hp e (List.mem_cons_of_mem _ he))
    unfold holdsT lbN
    by_cases h1 : ordS x.1 p < 0
    · rw [if_pos h1, List.drop_succ_cons, List.any_cons, hno x (by omega), Bool.false_or, ← ih]
      rfl
    · rw [if_neg h1, List.drop_zero]
      by_cases h0 : ordS x.1 p = 0
      · have hxp : x.1 = p := ordS_zero h0
        rw [List.any_cons, hno x (by omega), Bool.false_or, List.find?_cons_of_neg (by simp [hxp])]
        cases xs with
        | nil => rfl
        | cons y ys =>
          have h2 := hu.head y (List.mem_cons_self ..)
          rw [hxp] at h2
          have hyp : ¬ y.1 = p := fun e => by rw [e, ordS_ord.self] at h2; omega
          rw [List.find?_cons_of_pos (by simp [hyp])]
          have hn := ordS_neg p y.1
          unfold holdsT lbN at ih
          rw [if_neg (by omega), List.drop_zero, List.find?_cons_of_pos (by simp [hyp])] at ih
          exact ih
      · have hxp : ¬ x.1 = p := fun e => h0 (by rw [e]; exact ordS_ord.self p)
        rw [List.find?_cons_of_pos (by simp [hxp]), List.any_cons]
        show inS (upsS x.1) p = (inS (upsS x.1) p || _)
        cases hx : inS (upsS x.1) p with
        | true => rfl
        | false =>
          rw [Bool.false_or, eq_comm, List.any_eq_false]
          intro e he hq
          have hq1 := (inS_iff _ _).1 hq
          have h3 := hu.head e he
          have e1 := ordS_three x.1 e.1
          have e2 := ordS_three x.1 p
          have hn := ordS_neg x.1 p
          have := between hq1 (hp x (List.mem_cons_self ..)) (by omega) (by omega)
          rw [(inS_iff _ _).2 this] at hx
          cases hx
/-- the parent is the last of the ups -/
theorem parent_last (p : ByteArray) : (upsS p = [] ∧ parentS p = ⟨#[]⟩) ∨ (∃ h : upsS p ≠ [], (upsS p).getLast h = parentS p ∧ ¬ parentS p = ⟨#[]⟩) := by
  have hlen := upsS_len p
  rcases Nat.lt_or_ge (partsS p).length 2 with h | h
  · left
    have h1 : upsS p = [] := List.length_eq_zero_iff.1 (by omega)
    refine ⟨h1, ?_⟩
    unfold parentS
    have : (partsS p).dropLast = [] := List.length_eq_zero_iff.1 (by rw [List.length_dropLast]; omega)
    rw [this]
    rfl
  · right
    have hne : upsS p ≠ [] := fun e => by rw [e] at hlen; simp at hlen; omega
    have hk : (upsS p).length - 1 < (upsS p).length := by omega
    have hlast : (upsS p).getLast hne = (upsS p)[(upsS p).length - 1] := List.getLast_eq_getElem hne
    have heq : (upsS p).getLast hne = parentS p := by
      rw [hlast, upsS_at]
      unfold parentS
      rw [List.dropLast_eq_take, show (upsS p).length - 1 + 1 = (partsS p).length - 1 by omega]
    refine ⟨hne, heq, fun e => ?_⟩
    have hst := (ups_step p _ hk).2.2
    rw [← hlast, heq, e] at hst
    exact absurd hst (by decide)
end Sw
/- node.mode, node.Right (at a node that is one). -/
set_option linter.unusedVariables false
set_option linter.unusedSimpArgs false
namespace Go.Proofs.YtmpgmgjokliceaaGreatDoor
open Go Go.RowKit
open Sw
theorem nodeMode_any (w : World) (m : Int) :
    Calls Tryz.prog 176 #[.int .i64 m] w fun e w' => e = .returned (.bool (decide (0 ≤ m ∧ m ≤ 511))) ∧ w = w' := by
  by_cases h1 : 0 ≤ m
  · by_cases h2 : m ≤ 511
    · have hd : decide (0 ≤ m ∧ m ≤ 511) = true := by rw [decide_eq_true_eq]; exact ⟨h1, h2⟩
      rw [hd]
      go_enter Tryz.func176, Tryz.ntmps176
      go_wp2_with fail
      go_ret
      exact ⟨rfl, rfl⟩
    · have hd : decide (0 ≤ m ∧ m ≤ 511) = false := by rw [decide_eq_false_iff_not]; omega
      rw [hd]
      go_enter Tryz.func176, Tryz.ntmps176
      go_wp2_with fail
      go_ret
      exact ⟨rfl, rfl⟩
  · have hd : decide (0 ≤ m ∧ m ≤ 511) = false := by rw [decide_eq_false_iff_not]; omega
    rw [hd]
    go_enter Tryz.func176, Tryz.ntmps176
    go_wp2_with fail
    go_ret
    exact ⟨rfl, rfl⟩
set_option maxRecDepth 100000 in
set_option maxHeartbeats 4000000 in
theorem nodeRight_any (w : World) (n : Nd) (hk : ¬ n.kind = 0) (ht0 : 0 ≤ n.time) (ht1 : n.time < 4294967296) (hd : n.data.size ≤ maxLen) :
    Calls Tryz.prog 140 #[.agg n.c] w fun e w' => e = .returned (.int .i64 (nodeR n)) ∧ Below w.heap.size w w' := by
  obtain ⟨kd, md, tm, dt⟩ := n
  simp only at hk ht0 ht1 hd
  unfold maxLen at hd
  have hb0 := (Below.refl w.heap.size w).alloc (Nat.le_refl _) (.cells #[.int .i64 kd, .int .i64 md, .int .u32 tm, .string dt] 37)
  have hB0 := Blk.new w 37 #[.int .i64 kd, .int .i64 md, .int .u32 tm, .string dt]
  have H0 := Lib.hid (And.intro hb0 hB0); clear hb0 hB0
  have HM := Lib.hid (fun W => nodeMode_any W md)
  have e0 : (kd == 0) = false := by rw [beq_eq_false_iff_ne]; exact hk
  have e0' : (kd != 0) = true := by rw [bne_iff_ne]; exact hk
  unfold Nd.c
  have hR : nodeR ⟨kd, md, tm, dt⟩ = if ¬ kd = 1 ∧ ¬ kd = 2 then 8 else if kd = 2 ∧ (¬ dt.data.toList = [] ∨ ¬ tm = 0) then 1 else if ¬ (0 ≤ md ∧ md ≤ 511) then 12 else if kd = 1 ∧ ¬ (splitD tm).Ok then 13 else if (65000 : Int) < dt.size then 4 else 0 := by
    unfold nodeR
    simp [hk]
  rw [hR]
  clear hR
  by_cases h1 : kd = 1
  · subst h1
    rw [if_neg (by omega), if_neg (by omega)]
    have HD := Lib.hid (fun W => dosRight_any W tm ht0 ht1)
    by_cases hm : 0 ≤ md ∧ md ≤ 511
    · rw [decide_eq_true hm] at HM
      rw [if_neg (fun h => h hm)]
      by_cases hk2 : (splitD tm).Ok
      · rw [decide_eq_true hk2] at HD
        rw [if_neg (fun h => h.2 hk2)]
        clear hm hk hk2
        by_cases hs : (65000 : Int) < dt.size
        all_goals
          first | rw [if_pos hs] | rw [if_neg hs]
          go_enter Tryz.func140, Tryz.ntmps140
          go_wp2_with fail
          refine (HM.out _).mono ?_
          rintro e w1 ⟨rfl, rfl⟩
          go_wp2_with fail
          refine (HD.out _).mono ?_
          rintro e w2 ⟨rfl, hb2⟩
          have x3 := (H0.out.2.below hb2 H0.out.2.lt).cell 3
          simp at x3
          have HF := Lib.hid (H0.out.1.trans (hb2.mono H0.out.1.size)); clear hb2
          go_wp2_with fail
          go_ret
          exact ⟨rfl, HF.out⟩
      · rw [decide_eq_false hk2] at HD
        rw [if_pos ⟨rfl, hk2⟩]
        clear hm hk hk2
        go_enter Tryz.func140, Tryz.ntmps140
        go_wp2_with fail
        refine (HM.out _).mono ?_
        rintro e w1 ⟨rfl, rfl⟩
        go_wp2_with fail
        refine (HD.out _).mono ?_
        rintro e w2 ⟨rfl, hb2⟩
        have HF := Lib.hid (H0.out.1.trans (hb2.mono H0.out.1.size)); clear hb2
        go_wp2_with fail
        go_ret
        exact ⟨rfl, HF.out⟩
    · rw [decide_eq_false hm] at HM
      rw [if_pos hm]
      clear hm hk
      go_enter Tryz.func140, Tryz.ntmps140
      go_wp2_with fail
      refine (HM.out _).mono ?_
      rintro e w1 ⟨rfl, rfl⟩
      go_wp2_with fail
      go_ret
      exact ⟨rfl, H0.out.1⟩
  · have e1 : (kd == 1) = false := by rw [beq_eq_false_iff_ne]; exact h1
    have e1' : (kd != 1) = true := by rw [bne_iff_ne]; exact h1
    by_cases h2 : kd = 2
    · subst h2
      rw [if_neg (by omega)]
      by_cases hx : dt.data.toList = []
      · by_cases hy : tm = 0
        · subst hy
          rw [if_neg (by rintro ⟨_, h⟩; rcases h with h | h <;> simp_all)]
          have hdz : dt = ⟨#[]⟩ := by cases dt with | mk d => cases d with | mk l => simp at hx; subst hx; rfl
          subst hdz
          by_cases hm : 0 ≤ md ∧ md ≤ 511
          · rw [decide_eq_true hm] at HM
            rw [if_neg (fun h => h hm), if_neg (by omega), if_neg (by decide)]
            clear hm hk h1 e1 e1' hx
            go_enter Tryz.func140, Tryz.ntmps140
            go_wp2_with fail
            refine (HM.out _).mono ?_
            rintro e w1 ⟨rfl, rfl⟩
            go_wp2_with fail
            go_ret
            exact ⟨rfl, H0.out.1⟩
          · rw [decide_eq_false hm] at HM
            rw [if_pos hm]
            clear hm hk h1 e1 e1' hx
            go_enter Tryz.func140, Tryz.ntmps140
            go_wp2_with fail
            refine (HM.out _).mono ?_
            rintro e w1 ⟨rfl, rfl⟩
            go_wp2_with fail
            go_ret
            exact ⟨rfl, H0.out.1⟩
        · rw [if_pos ⟨rfl, .inr hy⟩]
          have hdz : dt = ⟨#[]⟩ := by cases dt with | mk d => cases d with | mk l => simp at hx; subst hx; rfl
          subst hdz
          have t0 : (tm == 0) = false := by rw [beq_eq_false_iff_ne]; exact hy
          have t1 : (tm != 0) = true := by rw [bne_iff_ne]; exact hy
          clear hk h1 e1 e1' hx hy
          go_enter Tryz.func140, Tryz.ntmps140
          go_wp2_with fail
          go_ret
          exact ⟨rfl, H0.out.1⟩
      · rw [if_pos ⟨rfl, .inl hx⟩]
        have s0 : dt.data.toList.isEmpty = false := by cases hl : dt.data.toList with | nil => exact absurd hl hx | cons a l => rfl
        have s1 : (!dt.data.toList.isEmpty) = true := by rw [s0]; rfl
        have s2 : (dt.data.toList == []) = false := by rw [beq_eq_false_iff_ne]; exact hx
        have s3 : dt.toList.isEmpty = false := by rw [ByteArray.toList_eq]; exact s0
        clear hk h1 e1 e1' hx
        go_enter Tryz.func140, Tryz.ntmps140
        go_wp2_with fail
        go_ret
        exact ⟨rfl, H0.out.1⟩
    · rw [if_pos ⟨h1, h2⟩]
      have e2 : (kd == 2) = false := by rw [beq_eq_false_iff_ne]; exact h2
      have e2' : (kd != 2) = true := by rw [bne_iff_ne]; exact h2
      clear hk h1 h2
      go_enter Tryz.func140, Tryz.ntmps140
      go_wp2_with fail
      go_ret
      exact ⟨rfl, H0.out.1⟩
end Go.Proofs.YtmpgmgjokliceaaGreatDoor
