/- Several texts, joined for the limit of sixty files; each one opens with its own comment. -/
import Derived.Test.YtjcbjocgachpjaaGreatDoorJoin9
import Derived.Test.YtjcbjocgachpjaaGreatDoorJoin1
import Derived.Test.YtjcbjocgachpjaaGreatDoorJoin3
import Derived.Deep.MidRow
import Derived.Lib.AppendZerosOnto
import Derived.Lib.Overlaps
import Derived.Laws.CopyRow
import Derived.Test.YtjcbjocgachpjaaGreatDoorChecked
/- The reference's rows of items and the tree's: plain. -/
set_option linter.unusedVariables false
set_option linter.unusedSimpArgs false
namespace Sw
open Go
open Go.Proofs.YtjcbjocgachpjaaGreatDoor (partsS)
section
variable {κ ν : Type} {c : κ → κ → Int}
/-- one round of the reference's Set -/
def stepG (c : κ → κ → Int) (k : κ) (v : ν) (s : Bool × List (κ × ν)) (x : κ × ν) : Bool × List (κ × ν) :=
  let s1 := if s.1 = false ∧ 0 ≤ c x.1 k then (true, s.2 ++ [(k, v)]) else s
  if c x.1 k = 0 then s1 else (s1.1, s1.2 ++ [x])
def setG (c : κ → κ → Int) (k : κ) (v : ν) (l : List (κ × ν)) : List (κ × ν) := let s := l.foldl (stepG c k v) (false, []); if s.1 = true then s.2 else s.2 ++ [(k, v)]
theorem stepG_len (k : κ) (v : ν) (s : Bool × List (κ × ν)) (x : κ × ν) : (stepG c k v s x).2.length ≤ s.2.length + 2 := by
  unfold stepG
  dsimp only
  split <;> split <;> simp
theorem foldG_len (k : κ) (v : ν) : ∀ (l : List (κ × ν)) (s : Bool × List (κ × ν)), (l.foldl (stepG c k v) s).2.length ≤ s.2.length + 2 * l.length
  | [], s => by simp
  | x :: l, s => by
    have := foldG_len k v l (stepG c k v s x)
    have := stepG_len (c := c) k v s x
    simp only [List.foldl_cons, List.length_cons]
    omega
theorem foldG_step (k : κ) (v : ν) (l : List (κ × ν)) (i : Nat) (h : i < l.length) : (l.take (i + 1)).foldl (stepG c k v) (false, []) = stepG c k v ((l.take i).foldl (stepG c k v) (false, [])) l[i] := by
  rw [List.take_succ_eq_append_getElem h, List.foldl_append]
  rfl
theorem foldG_true (k : κ) (v : ν) : ∀ (l : List (κ × ν)) (o : List (κ × ν)), l.foldl (stepG c k v) (true, o) = (true, o ++ l.filter fun e => !decide (c e.1 k = 0))
  | [], o => by simp
  | x :: l, o => by
    rw [List.foldl_cons]
    have h1 : stepG c k v (true, o) x = (true, if c x.1 k = 0 then o else o ++ [x]) := by
      unfold stepG
      by_cases hx : c x.1 k = 0 <;> simp [hx]
    rw [h1, foldG_true k v l]
    by_cases hx : c x.1 k = 0
    · rw [if_pos hx, List.filter_cons_of_neg (by simpa using hx)]
    · rw [if_neg hx, List.filter_cons_of_pos (by simpa using hx), List.append_assoc]; rfl
theorem foldG_false (hO : Ord3 c) (k : κ) (v : ν) : ∀ (l : List (κ × ν)) (o : List (κ × ν)), Up c l → (let s := l.foldl (stepG c k v) (false, o); if s.1 = true then s.2 else s.2 ++ [(k, v)]) = o ++ putN c k v l
  | [], o, _ => by simp [putN]
  | x :: l, o, hu => by
    rw [List.foldl_cons]
    unfold putN
    by_cases h1 : 0 ≤ c x.1 k
    · have hs : stepG c k v (false, o) x = (true, if c x.1 k = 0 then o ++ [(k, v)] else o ++ [(k, v)] ++ [x]) := by
        unfold stepG
        by_cases hx : c x.1 k = 0 <;> simp [hx, h1]
      rw [hs, foldG_true]
      have hge : l.filter (fun e => !decide (c e.1 k = 0)) = l := List.filter_eq_self.2 fun y hy => by
        have h2 := hu.head y hy
        have h3 : ¬ c y.1 k = 0 := fun e => by
          have := hO.zero _ _ e
          rw [this] at h2
          omega
        simpa using h3
      dsimp only
      rw [if_pos rfl, hge]
      have h2 : ¬ c x.1 k < 0 := by omega
      by_cases hx : c x.1 k = 0
      · simp [hx]
      · simp [hx, h2]
    · have hs : stepG c k v (false, o) x = (false, o ++ [x]) := by
        unfold stepG
        have hx : ¬ c x.1 k = 0 := by omega
        simp [hx, h1]
      rw [hs, foldG_false hO k v l _ hu.tail, if_pos (by omega), List.append_assoc]
      rfl
theorem setG_eq (hO : Ord3 c) (k : κ) (v : ν) (l : List (κ × ν)) (h : Up c l) : setG c k v l = putN c k v l := by
  have := foldG_false hO k v l [] h
  rw [List.nil_append] at this
  exact this
end
/-- a tree's keys are paths -/
def Paths (xs : List NE) : Prop := ∀ e ∈ xs, rightL e.1.data.toList = true
theorem Paths.put {xs : List NE} (h : Paths xs) {p : ByteArray} (hp : rightL p.data.toList = true) (n : Nd) : Paths (putN ordS p n xs) := fun e he => by
  rcases put_mem p n xs e he with rfl | he
  · exact hp
  · exact h e he
theorem Paths.ofPut {xs : List NE} (h : Paths xs) (p : ByteArray) (n : Nd) : Paths (putT xs p n) := by
  unfold putT
  by_cases h0 : mayT xs p n = 0
  · rw [if_pos h0]
    cases hr : rightL p.data.toList with
    | true => exact h.put hr n
    | false =>
      unfold mayT at h0
      rw [if_pos hr] at h0
      cases h0
  · rw [if_neg h0]
    exact h
/-- the first entry behind a path tells whether something is under it -/
theorem holds_any : ∀ (xs : List NE) (p : ByteArray), Up ordS xs → Paths xs → holdsT xs p = xs.any fun e => inS (upsS e.1) p
  | [], p, _, _ => rfl
  | x :: xs, p, hu, hp => by
    have hno : ∀ e : NE, ordS e.1 p ≤ 0 → inS (upsS e.1) p = false := fun e he => by
      cases hq : inS (upsS e.1) p with
      | false => rfl
      | true =>
        have h1 := ups_order ((inS_iff _ _).1 hq)
        have h2 := ordS_neg p e.1
        omega
    have ih := holds_any xs p hu.tail (fun e he => hp e (List.mem_cons_of_mem _ he))
    unfold holdsT lbN
    by_cases h1 : ordS x.1 p < 0
    · rw [if_pos h1, List.drop_succ_cons, List.any_cons, hno x (by omega), Bool.false_or, ← ih]
      rfl
    · rw [if_neg h1, List.drop_zero]
      by_cases h0 : ordS x.1 p = 0
      · have hxp : x.1 = p := ordS_zero h0
        rw [List.any_cons, hno x (by omega), Bool.false_or, List.find?_cons_of_neg (by simp [hxp])]
        cases xs with
        | nil => rfl
        | cons y ys =>
          have h2 := hu.head y (List.mem_cons_self ..)
          rw [hxp] at h2
          have hyp : ¬ y.1 = p := fun e => by rw [e, ordS_ord.self] at h2; omega
          rw [List.find?_cons_of_pos (by simp [hyp])]
          have hn := ordS_neg p y.1
          unfold holdsT lbN at ih
          rw [if_neg (by omega), List.drop_zero, List.find?_cons_of_pos (by simp [hyp])] at ih
          exact ih
      · have hxp : ¬ x.1 = p := fun e => h0 (by rw [e]; exact ordS_ord.self p)
        rw [List.find?_cons_of_pos (by simp [hxp]), List.any_cons]
        show inS (upsS x.1) p = (inS (upsS x.1) p || _)
        cases hx : inS (upsS x.1) p with
        | true => rfl
        | false =>
          rw [Bool.false_or, eq_comm, List.any_eq_false]
          intro e he hq
          have hq1 := (inS_iff _ _).1 hq
          have h3 := hu.head e he
          have e1 := ordS_three x.1 e.1
          have e2 := ordS_three x.1 p
          have hn := ordS_neg x.1 p
          have := between hq1 (hp x (List.mem_cons_self ..)) (by omega) (by omega)
          rw [(inS_iff _ _).2 this] at hx
          cases hx
/-- the parent is the last of the ups -/
theorem parent_last (p : ByteArray) : (upsS p = [] ∧ parentS p = ⟨#[]⟩) ∨ (∃ h : upsS p ≠ [], (upsS p).getLast h = parentS p ∧ ¬ parentS p = ⟨#[]⟩) := by
  have hlen := upsS_len p
  rcases Nat.lt_or_ge (partsS p).length 2 with h | h
  · left
    have h1 : upsS p = [] := List.length_eq_zero_iff.1 (by omega)
    refine ⟨h1, ?_⟩
    unfold parentS
    have : (partsS p).dropLast = [] := List.length_eq_zero_iff.1 (by rw [List.length_dropLast]; omega)
    rw [this]
    rfl
  · right
    have hne : upsS p ≠ [] := fun e => by rw [e] at hlen; simp at hlen; omega
    have hk : (upsS p).length - 1 < (upsS p).length := by omega
    have hlast : (upsS p).getLast hne = (upsS p)[(upsS p).length - 1] := List.getLast_eq_getElem hne
    have heq : (upsS p).getLast hne = parentS p := by
      rw [hlast, upsS_at]
      unfold parentS
      rw [List.dropLast_eq_take, show (upsS p).length - 1 + 1 = (partsS p).length - 1 by omega]
    refine ⟨hne, heq, fun e => ?_⟩
    have hst := (ups_step p _ hk).2.2
    rw [← hlast, heq, e] at hst
    exact absurd hst (by decide)
end Sw
/- node.mode, node.Right (at a node that is one). -/
set_option linter.unusedVariables false
set_option linter.unusedSimpArgs false
namespace Go.Proofs.YtjcbjocgachpjaaGreatDoor
open Go Go.RowKit
open Sw
theorem nodeMode_any (w : World) (m : Int) :
    Calls Tryz.prog 89 #[.int .i64 m] w fun e w' => e = .returned (.bool (decide (0 ≤ m ∧ m ≤ 511))) ∧ w = w' := by
  by_cases h1 : 0 ≤ m
  · by_cases h2 : m ≤ 511
    · have hd : decide (0 ≤ m ∧ m ≤ 511) = true := by rw [decide_eq_true_eq]; exact ⟨h1, h2⟩
      rw [hd]
      go_enter Tryz.func89, Tryz.ntmps89
      go_wp2_with fail
      go_ret
      exact ⟨rfl, rfl⟩
    · have hd : decide (0 ≤ m ∧ m ≤ 511) = false := by rw [decide_eq_false_iff_not]; omega
      rw [hd]
      go_enter Tryz.func89, Tryz.ntmps89
      go_wp2_with fail
      go_ret
      exact ⟨rfl, rfl⟩
  · have hd : decide (0 ≤ m ∧ m ≤ 511) = false := by rw [decide_eq_false_iff_not]; omega
    rw [hd]
    go_enter Tryz.func89, Tryz.ntmps89
    go_wp2_with fail
    go_ret
    exact ⟨rfl, rfl⟩
set_option maxRecDepth 100000 in
set_option maxHeartbeats 4000000 in
theorem nodeRight_any (w : World) (n : Nd) (hk : ¬ n.kind = 0) (ht0 : 0 ≤ n.time) (ht1 : n.time < 4294967296) (hd : n.data.size ≤ maxLen) :
    Calls Tryz.prog 75 #[.agg n.c] w fun e w' => e = .returned (.int .i64 (nodeR n)) ∧ Below w.heap.size w w' := by
  obtain ⟨kd, md, tm, dt⟩ := n
  simp only at hk ht0 ht1 hd
  unfold maxLen at hd
  have hb0 := (Below.refl w.heap.size w).alloc (Nat.le_refl _) (.cells #[.int .i64 kd, .int .i64 md, .int .u32 tm, .string dt] 43)
  have hB0 := Blk.new w 43 #[.int .i64 kd, .int .i64 md, .int .u32 tm, .string dt]
  have H0 := Lib.hid (And.intro hb0 hB0); clear hb0 hB0
  have HM := Lib.hid (fun W => nodeMode_any W md)
  have e0 : (kd == 0) = false := by rw [beq_eq_false_iff_ne]; exact hk
  have e0' : (kd != 0) = true := by rw [bne_iff_ne]; exact hk
  unfold Nd.c
  have hR : nodeR ⟨kd, md, tm, dt⟩ = if ¬ kd = 1 ∧ ¬ kd = 2 then 8 else if kd = 2 ∧ (¬ dt.data.toList = [] ∨ ¬ tm = 0) then 1 else if ¬ (0 ≤ md ∧ md ≤ 511) then 12 else if kd = 1 ∧ ¬ (splitD tm).Ok then 13 else if (65000 : Int) < dt.size then 4 else 0 := by
    unfold nodeR
    simp [hk]
  rw [hR]
  clear hR
  by_cases h1 : kd = 1
  · subst h1
    rw [if_neg (by omega), if_neg (by omega)]
    have HD := Lib.hid (fun W => dosRight_any W tm ht0 ht1)
    by_cases hm : 0 ≤ md ∧ md ≤ 511
    · rw [decide_eq_true hm] at HM
      rw [if_neg (fun h => h hm)]
      by_cases hk2 : (splitD tm).Ok
      · rw [decide_eq_true hk2] at HD
        rw [if_neg (fun h => h.2 hk2)]
        clear hm hk hk2
        by_cases hs : (65000 : Int) < dt.size
        all_goals
          first | rw [if_pos hs] | rw [if_neg hs]
          go_enter Tryz.func75, Tryz.ntmps75
          go_wp2_with fail
          refine (HM.out _).mono ?_
          rintro e w1 ⟨rfl, rfl⟩
          go_wp2_with fail
          refine (HD.out _).mono ?_
          rintro e w2 ⟨rfl, hb2⟩
          have x3 := (H0.out.2.below hb2 H0.out.2.lt).cell 3
          simp at x3
          have HF := Lib.hid (H0.out.1.trans (hb2.mono H0.out.1.size)); clear hb2
          go_wp2_with fail
          go_ret
          exact ⟨rfl, HF.out⟩
      · rw [decide_eq_false hk2] at HD
        rw [if_pos ⟨rfl, hk2⟩]
        clear hm hk hk2
        go_enter Tryz.func75, Tryz.ntmps75
        go_wp2_with fail
        refine (HM.out _).mono ?_
        rintro e w1 ⟨rfl, rfl⟩
        go_wp2_with fail
        refine (HD.out _).mono ?_
        rintro e w2 ⟨rfl, hb2⟩
        have HF := Lib.hid (H0.out.1.trans (hb2.mono H0.out.1.size)); clear hb2
        go_wp2_with fail
        go_ret
        exact ⟨rfl, HF.out⟩
    · rw [decide_eq_false hm] at HM
      rw [if_pos hm]
      clear hm hk
      go_enter Tryz.func75, Tryz.ntmps75
      go_wp2_with fail
      refine (HM.out _).mono ?_
      rintro e w1 ⟨rfl, rfl⟩
      go_wp2_with fail
      go_ret
      exact ⟨rfl, H0.out.1⟩
  · have e1 : (kd == 1) = false := by rw [beq_eq_false_iff_ne]; exact h1
    have e1' : (kd != 1) = true := by rw [bne_iff_ne]; exact h1
    by_cases h2 : kd = 2
    · subst h2
      rw [if_neg (by omega)]
      by_cases hx : dt.data.toList = []
      · by_cases hy : tm = 0
        · subst hy
          rw [if_neg (by rintro ⟨_, h⟩; rcases h with h | h <;> simp_all)]
          have hdz : dt = ⟨#[]⟩ := by cases dt with | mk d => cases d with | mk l => simp at hx; subst hx; rfl
          subst hdz
          by_cases hm : 0 ≤ md ∧ md ≤ 511
          · rw [decide_eq_true hm] at HM
            rw [if_neg (fun h => h hm), if_neg (by omega), if_neg (by decide)]
            clear hm hk h1 e1 e1' hx
            go_enter Tryz.func75, Tryz.ntmps75
            go_wp2_with fail
            refine (HM.out _).mono ?_
            rintro e w1 ⟨rfl, rfl⟩
            go_wp2_with fail
            go_ret
            exact ⟨rfl, H0.out.1⟩
          · rw [decide_eq_false hm] at HM
            rw [if_pos hm]
            clear hm hk h1 e1 e1' hx
            go_enter Tryz.func75, Tryz.ntmps75
            go_wp2_with fail
            refine (HM.out _).mono ?_
            rintro e w1 ⟨rfl, rfl⟩
            go_wp2_with fail
            go_ret
            exact ⟨rfl, H0.out.1⟩
        · rw [if_pos ⟨rfl, .inr hy⟩]
          have hdz : dt = ⟨#[]⟩ := by cases dt with | mk d => cases d with | mk l => simp at hx; subst hx; rfl
          subst hdz
          have t0 : (tm == 0) = false := by rw [beq_eq_false_iff_ne]; exact hy
          have t1 : (tm != 0) = true := by rw [bne_iff_ne]; exact hy
          clear hk h1 e1 e1' hx hy
          go_enter Tryz.func75, Tryz.ntmps75
          go_wp2_with fail
          go_ret
          exact ⟨rfl, H0.out.1⟩
      · rw [if_pos ⟨rfl, .inl hx⟩]
        have s0 : dt.data.toList.isEmpty = false := by cases hl : dt.data.toList with | nil => exact absurd hl hx | cons a l => rfl
        have s1 : (!dt.data.toList.isEmpty) = true := by rw [s0]; rfl
        have s2 : (dt.data.toList == []) = false := by rw [beq_eq_false_iff_ne]; exact hx
        have s3 : dt.toList.isEmpty = false := by rw [ByteArray.toList_eq]; exact s0
        clear hk h1 e1 e1' hx
        go_enter Tryz.func75, Tryz.ntmps75
        go_wp2_with fail
        go_ret
        exact ⟨rfl, H0.out.1⟩
    · rw [if_pos ⟨h1, h2⟩]
      have e2 : (kd == 2) = false := by rw [beq_eq_false_iff_ne]; exact h2
      have e2' : (kd != 2) = true := by rw [bne_iff_ne]; exact h2
      clear hk h1 h2
      go_enter Tryz.func75, Tryz.ntmps75
      go_wp2_with fail
      go_ret
      exact ⟨rfl, H0.out.1⟩
end Go.Proofs.YtjcbjocgachpjaaGreatDoor
/- Rows that are known whole: copied into, appended to, cleared: elements of however many cells. Over any program. -/
set_option linter.unusedVariables false
set_option linter.unusedSimpArgs false
namespace Sw
open Go Go.RowKit
section
variable {P : Program}
theorem Blk.setRow {w : World} {g : Nat} {t : TypeId} {cur : Array Value} (h : Blk w g t cur) (cs : Array Value) : Blk (w.setRow g cs) g t cs := setRow_heap w g cur cs t (0, 0) h
theorem grown_setRow (w : World) (g : Nat) (cs : Array Value) : w.grownBy (w.setRow g cs) (some g) := ⟨rfl, rfl, rfl, by simp, fun k _ hk => setRow_other w g k _ (fun e => hk (by rw [e]))⟩
theorem Blk.shape {w : World} {g : Nat} {t : TypeId} {cs : Array Value} (h : Blk w g t cs) : w.shape? g = some (t, cs.size) := by unfold Blk at h; simp [World.shape?, h]
theorem Blk.at {w : World} {g : Nat} {t : TypeId} {cs : Array Value} (h : Blk w g t cs) (o : Nat) : ∀ j v, (cs.toList.drop o)[j]? = some v → w.cell? ((⟨g, o, none⟩ : Addr).add j) = some v := fun j v hj => by
  rw [add_mk, h.cell, ← Array.getElem?_toList, ← hj, List.getElem?_drop]
/-- copy(d, s), d a part of a row that is known whole -/
theorem run_copy_rows (w : World) (dT sT ty elem : TypeId) (size g o dLen dCap : Nat) (a : Addr) (sLen sCap : Nat) (cur : Array Value) (t : TypeId) (cs : List Value) (k : Nat)
    (hu : P.underlying dT = some (.slice elem)) (hs : (P.info? elem).map (·.size) = some size) (hg : Blk w g t cur) (hk : Nat.min sLen dLen = k) (hn : cs.length = k * size)
    (hsrc : ∀ j v, cs[j]? = some v → w.cell? (a.add j) = some v) (hfit : o + cs.length ≤ cur.size) (h1 : ∀ v ∈ cs, v.oneCell' = true) :
    (Builtin.copy_ #[dT, sT] ty #[.slice (some ⟨g, o, none⟩) dLen dCap, .slice (some a) sLen sCap]).run P w =
      .ok (goInt k) (w.setRow g (cur.toList.take o ++ cs ++ cur.toList.drop (o + cs.length)).toArray) := by
  have hl := run_loadCells_list (P := P) w a cs hsrc
  have hst := run_storeCells_at P g o t cs 0 cur w hg (by simpa using hfit) h1
  cases hq : P.info? elem with
  | none => simp [hq] at hs
  | some i =>
    have hi : i.size = size := by simpa [hq] using hs
    simp [Builtin.copy_, run_underlying hu, Builtin.lenOf, Builtin.firstCells, Go.sizeOf, typeInfo, hq, hi, hk, ← hn, hl, hst]
theorem wp_builtin_run {b : Builtin} (w : World) {o : Oper} {a : Act} {K : Act → World → Prop} {Q : Exit → Act → World → Prop} (d s : Operand) (t t' : TypeId)
    (ho : o.op = .call { callee := .builtin .copy, args := #[d, s], argTypes := #[t, t'] }) (v u : Value) (hd : a.eval d = v) (hs : a.eval s = u) {v' : Value} {w' : World}
    (hr : (Builtin.copy_ #[t, t'] o.type #[v, u]).run P w = .ok v' w') (h : K (a.put o.dst v') w') : o.wp P a w K Q := by
  unfold Oper.wp execOp
  simp only [ho, resolve, invoke, builtin, Sem.run_bind, Sem.run_pure, Result.andThen_ok, List.map_toArray, List.map_cons, List.map_nil, hd, hs, hr]
  exact h
theorem wpList_copy_rows (w : World) {ops : Array Oper} {rest : List Oper} {o : Oper} {a : Act} {Q : Exit → Act → World → Prop} (hgd : o.guard = none) (d s : Operand) (t t' : TypeId)
    (ho : o.op = .call { callee := .builtin .copy, args := #[d, s], argTypes := #[t, t'] }) (v u : Value) (hd : a.eval d = v) (hs : a.eval s = u) {v' : Value} {w' : World}
    (hr : (Builtin.copy_ #[t, t'] o.type #[v, u]).run P w = .ok v' w') (h : wpList P ops Q rest (a.put o.dst v') w') : wpList P ops Q (o :: rest) a w :=
  wpList_plain hgd fun _ hK => wp_builtin_run (b := .copy) w d s t t' ho v u hd hs hr (hK _ _ h)
/-- s[l:]: one address, whether the capacity is all or not -/
theorem slice_from (t e : TypeId) (size : Nat) (ht : P.underlying t = some (.slice e)) (hel : P.elem t = e) (hsz : ∀ w, (Go.sizeOf e).run P w = .ok size w) (b off N c n : Nat) (l : Int) (hl : l = n) (hn : n ≤ N) :
    ∃ a, (∀ W, (Instr.slice t (.slice (some ⟨b, off, none⟩) N c) (some (.int .i64 l)) none none).run P W = .ok (.slice (some a) (N - n) (c - n)) W) ∧ (n < c → a = ⟨b, off + n * size, none⟩) ∧ a.block = b ∧ a.spot = none := by
  subst hl
  refine ⟨if c = n then ⟨b, off, none⟩ else ⟨b, off + n * size, none⟩, fun W => ?_, fun h => if_neg (by omega), by split <;> rfl, by split <;> rfl⟩
  rw [run_slice_l (P := P) (w := W) t (some ⟨b, off, none⟩) N c (by rw [hel]; exact ht) .i64 (n : Int) (by omega) (by omega), hel, hsz]
  simp only [Result.andThen, sliced, Int.toNat_natCast]
  congr 2
  by_cases h : c = n
  · rw [if_pos h, if_pos h]
  · rw [if_neg h, if_neg h]
    simp [add_mk]
/-- a load of a row in the midst of a block, guarded or not -/
theorem wpList_load_row_g {ops : Array Oper} {rest : List Oper} {op : Oper} {a : Act} {w : World} {Q : Exit → Act → World → Prop} (hw : Region.wanted op (yielded ops a.tmps) = true) (ty : TypeId) (x : Operand) (ho : op.op = .load ty x)
    (b o : Nat) (hx : a.eval x = .pointer (some ⟨b, o, none⟩)) (cs : List Value) (d : TypeDesc) (hc : w.rangeAt b o cs)
    (hu : P.underlying ty = some d) (hd : d.isRow = true) (hi : (P.info? ty).map (·.size) = some cs.length)
    (h : wpList P ops Q rest (a.put op.dst (.agg cs.toArray)) w) : wpList P ops Q (op :: rest) a w :=
  wpList_step fun K hK => by
    rw [if_pos hw]
    exact wp_load_mid ty x ho b o hx cs d hc hu hd hi (hK _ _ h)
theorem step_copy_rows {ops : Array Oper} {o : Oper} {a : Act} {w : World} {K : Act → World → Prop} {Q : Exit → Act → World → Prop} {E : Prop}
    (hg : o.guard = none) (d x : Operand) (dT sT : TypeId) (hop : o.op = Op.call { callee := Callee.builtin Builtin.copy, args := #[d, x], argTypes := #[dT, sT] })
    (v u : Value) (hd : a.eval d = v) (hx : a.eval x = u) {v' : Value} {w' : World} (hr : (Builtin.copy_ #[dT, sT] o.type #[v, u]).run P w = .ok v' w') (hK : K (a.put o.dst v') w') :
    if Region.wanted o (yielded ops a.tmps) = true then Oper.wp P o a w K Q else E := by
  have hw : Region.wanted o (yielded ops a.tmps) = true := by simp [Region.wanted, hg]
  rw [if_pos hw]
  unfold Oper.wp
  simp [execOp, hop, resolve, invoke, builtin, hd, hx, hr, Result.andThen]
  exact hK
end
/-- what lies in a row behind two copies: shifted up, then put -/
theorem ins_cells (cur cx : List Value) (a b s : Nat) (hab : a ≤ b) (hb : b + s ≤ cur.length) (hx : cx.length = s) :
    let cs := (cur.take b).drop a
    let c1 := cur.take (a + s) ++ cs ++ cur.drop (a + s + cs.length)
    let c2 := c1.take a ++ cx ++ c1.drop (a + cx.length)
    c2.take (b + s) = cur.take a ++ cx ++ cs ∧ c2.length = cur.length ∧ c1.length = cur.length ∧ cs.length = b - a := by
  intro cs c1 c2
  have hcs : cs.length = b - a := by simp only [cs, List.length_drop, List.length_take]; omega
  have h1 : c1.length = cur.length := by simp only [c1, List.length_append, List.length_take, List.length_drop, hcs]; omega
  have h2 : c1.take a = cur.take a := by
    simp only [c1, List.append_assoc]
    rw [List.take_append_of_le_length (by rw [List.length_take]; omega), List.take_take]
    congr 1; omega
  have h3 : c1.drop (a + s) = cs ++ cur.drop (a + s + cs.length) := by
    simp only [c1, List.append_assoc]
    rw [List.drop_append_of_le_length (by rw [List.length_take]; omega)]
    rw [show (cur.take (a + s)).drop (a + s) = [] from List.drop_eq_nil_of_le (by rw [List.length_take]; omega), List.nil_append]
  refine ⟨?_, ?_, h1, hcs⟩
  · simp only [c2]
    rw [h2, hx, h3, ← List.append_assoc]
    exact List.take_left' (by simp only [List.length_append, List.length_take, hcs, hx]; omega)
  · simp only [c2, List.length_append, List.length_take, List.length_drop, h1, hx]; omega
/-- what lies in a row behind two copies: put, then what is behind it -/
theorem ins_cells2 (R cx cs : List Value) (a s : Nat) (hb : a + s + cs.length ≤ R.length) (hx : cx.length = s) :
    let r1 := R.take a ++ cx ++ R.drop (a + cx.length)
    let r2 := r1.take (a + s) ++ cs ++ r1.drop (a + s + cs.length)
    r2.take (a + s + cs.length) = R.take a ++ cx ++ cs ∧ r2.length = R.length ∧ r1.length = R.length := by
  intro r1 r2
  have h1 : r1.length = R.length := by simp only [r1, List.length_append, List.length_take, List.length_drop, hx]; omega
  have h2 : r1.take (a + s) = R.take a ++ cx := by
    simp only [r1]
    exact List.take_left' (by simp only [List.length_append, List.length_take, hx]; omega)
  refine ⟨?_, ?_, h1⟩
  · simp only [r2]
    rw [h2]
    exact List.take_left' (by simp only [List.length_append, List.length_take, hx]; omega)
  · simp only [r2, List.length_append, List.length_take, List.length_drop, h1]; omega
theorem flat_take {α β : Type} {E : α → List β} {size : Nat} (hE : ∀ x, (E x).length = size) : ∀ (l : List α) (i : Nat), (l.take i).flatMap E = (l.flatMap E).take (i * size)
  | [], i => by simp
  | a :: l, 0 => by simp
  | a :: l, i + 1 => by
    rw [List.take_succ_cons, List.flatMap_cons, List.flatMap_cons, flat_take hE l i, show (i + 1) * size = (E a).length + i * size by rw [hE, Nat.add_mul]; omega, List.take_length_add_append]
theorem flat_drop {α β : Type} {E : α → List β} {size : Nat} (hE : ∀ x, (E x).length = size) : ∀ (l : List α) (i : Nat), (l.drop i).flatMap E = (l.flatMap E).drop (i * size)
  | [], i => by simp
  | a :: l, 0 => by simp
  | a :: l, i + 1 => by
    rw [List.drop_succ_cons, List.flatMap_cons, flat_drop hE l i, show (i + 1) * size = (E a).length + i * size by rw [hE, Nat.add_mul]; omega, List.drop_length_add_append]
theorem own_wide {w : World} {base base' : Nat} {e : TypeId} {size n : Nat} {v : Value} {xs : List Value} (h : w.ownsRow base e size v n xs) (hb : base' ≤ base) : w.ownsRow base' e size v n xs := by
  refine ⟨h.1, ?_⟩
  rcases h.2 with h0 | ⟨g, cap, cur, hv, hg, h1⟩
  · exact .inl h0
  · exact .inr ⟨g, cap, cur, hv, Nat.le_trans hb hg, h1⟩
theorem SlV_of_any {w : World} {base : Nat} {e : TypeId} {size n : Nat} {v : Value} {xs : List Value} (h : w.ownsRow base e size v n xs) : ∃ A c, v = .slice A n c ∧ n ≤ c ∧ c ≤ maxLen ∧ True := by
  rcases h.2 with ⟨rfl, rfl⟩ | ⟨g, cap, cur, rfl, _, _, h1, h2, _⟩
  · exact ⟨none, 0, rfl, Nat.le_refl _, by simp [maxLen], trivial⟩
  · exact ⟨_, cap, rfl, h1, h2, trivial⟩
/-- cells of an own row are stored -/
theorem own_setCells {base : Nat} {e : TypeId} {size n g cap : Nat} : ∀ (us : List Value) (o : Nat) (w : World) (xs : List Value), w.ownsRow base e size (.slice (some ⟨g, 0, none⟩) n cap) n xs → o + us.length ≤ n * size →
    (w.setCells g o us).ownsRow base e size (.slice (some ⟨g, 0, none⟩) n cap) n (xs.take o ++ us ++ xs.drop (o + us.length))
  | [], o, w, xs, h, _ => by
    rw [World.setCells, List.append_nil, List.length_nil, Nat.add_zero, List.take_append_drop]
    exact h
  | u :: us, o, w, xs, h, hl => by
    rw [List.length_cons] at hl
    have h1 := own_setCells us (o + 1) (w.setCell ⟨g, o, none⟩ u) (xs.set o u) (h.stored o u).1 (by omega)
    rw [World.setCells]
    have e1 : xs.take o ++ u :: us ++ xs.drop (o + (u :: us).length) = (xs.set o u).take (o + 1) ++ us ++ (xs.set o u).drop (o + 1 + us.length) := by
      have hx := h.1
      have := list_seg_step xs o u us (by omega)
      rw [this, List.length_cons]
    rw [e1]
    exact h1
theorem grown_setCells {a : World} {g : Nat} : ∀ (us : List Value) (o : Nat) (w : World), a.grownBy w (some g) → a.grownBy (w.setCells g o us) (some g)
  | [], _, _, h => h
  | u :: us, o, w, h => by rw [World.setCells]; exact grown_setCells us (o + 1) _ (grown_put h o u)
theorem flat_put {α β : Type} {E : α → List β} {size : Nat} (hE : ∀ x, (E x).length = size) (l : List α) (i : Nat) (h : i < l.length) (x : α) (o : Nat) (us : List β) (ho : o + us.length ≤ size) (hx : E x = (E l[i]).take o ++ us ++ (E l[i]).drop (o + us.length)) :
    (l.flatMap E).take (i * size + o) ++ us ++ (l.flatMap E).drop (i * size + o + us.length) = (l.set i x).flatMap E := by
  have hl : l = l.take i ++ l[i] :: l.drop (i + 1) := by rw [← List.drop_eq_getElem_cons h, List.take_append_drop]
  have hP : ((l.take i).flatMap E).length = i * size := by rw [flat_len hE, List.length_take, Nat.min_eq_left (Nat.le_of_lt h)]
  have hF : l.flatMap E = (l.take i).flatMap E ++ (E l[i] ++ (l.drop (i + 1)).flatMap E) := by
    conv => lhs; rw [hl]
    rw [List.flatMap_append, List.flatMap_cons]
  rw [hF, List.set_eq_take_append_cons_drop, if_pos h, List.flatMap_append, List.flatMap_cons, hx]
  rw [← hP, List.take_length_add_append, Nat.add_assoc, List.drop_length_add_append, List.take_append_of_le_length (by rw [hE]; omega), List.drop_append_of_le_length (by rw [hE]; omega)]
  simp only [List.append_assoc]
/-- a step that turns a block which lies behind what a has -/
theorem grown_sub {a w w' : World} {row row' : Option Nat} (h : a.grownBy w row) (k : w.grownBy w' row') (hr : ∀ g, row' = some g → a.heap.size ≤ g) : a.grownBy w' row :=
  ⟨k.os.trans h.os, k.tape.trans h.tape, k.output.trans h.output, Nat.le_trans h.size k.size, fun i hi hn => (k.block i (Nat.lt_of_lt_of_le hi h.size) (fun e => by have := hr i e.symm; omega)).trans (h.block i hi hn)⟩
/-- an element is read out of a slice -/
theorem SlOf.range {w : World} {size : Nat} {α : Type} {E : α → List Value} {b off : Nat} {l : List α} (h : SlOf w size E (some ⟨b, off, none⟩) l) (hE : ∀ x, (E x).length = size) (i : Nat) (hi : i < l.length) : w.rangeAt b (off + i * size) (E l[i]) := by
  obtain ⟨b', off', hA, _, hc⟩ := h (by omega)
  have hA' : (⟨b, off, none⟩ : Addr) = ⟨b', off', none⟩ := Option.some.inj hA
  have hb : b = b' := congrArg Addr.block hA'
  have ho : off = off' := congrArg Addr.off hA'
  subst hb
  subst ho
  intro j v hj
  have hjl : j < size := by rw [← hE l[i]]; exact (List.getElem?_eq_some_iff.1 hj).1
  rw [hc i hi j hjl, hj]
/-- what is in the first cells of a row that the call owns -/
theorem own_form {w : World} {base : Nat} {e : TypeId} {size n : Nat} {v : Value} {xs : List Value} (h : w.ownsRow base e size v n xs) (hn : 0 < n) :
    ∃ g cap cur, v = .slice (some ⟨g, 0, none⟩) n cap ∧ base ≤ g ∧ Blk w g e cur ∧ n ≤ cap ∧ cap ≤ maxLen ∧ cur.size = cap * size ∧ cur.toList.take (n * size) = xs := by
  rcases h.2 with ⟨_, h0⟩ | ⟨g, cap, cur, hv, hb, hg, h1, h2, h3, h4⟩
  · omega
  · exact ⟨g, cap, cur, hv, hb, hg, h1, h2, h3, h4⟩
theorem own_mk {w : World} {base : Nat} {e : TypeId} {size n g cap : Nat} {cur : Array Value} {xs : List Value} (hb : base ≤ g) (hg : Blk w g e cur) (h1 : n ≤ cap) (h2 : cap ≤ maxLen) (h3 : cur.size = cap * size) (h4 : cur.toList.take (n * size) = xs) :
    w.ownsRow base e size (.slice (some ⟨g, 0, none⟩) n cap) n xs := by
  refine ⟨?_, .inr ⟨g, cap, cur, rfl, hb, hg, h1, h2, h3, h4⟩⟩
  rw [← h4, List.length_take, Array.length_toList, h3]
  have : n * size ≤ cap * size := Nat.mul_le_mul_right _ h1
  omega
end Sw
/- slices.Clone of a row of sorted.entry[string,swingle/api.Node]: the same elements, in memory of the call's own. -/
set_option linter.unusedVariables false
set_option linter.unusedSimpArgs false
namespace Go.Proofs.YtjcbjocgachpjaaGreatDoor
open Go Go.RowKit
open Sw
theorem infoESN : (Tryz.prog.info? 135).map (fun i => (i.zero, i.size, i.bytes)) = some (some (.agg #[.string ⟨#[]⟩, .int .i64 0, .int .i64 0, .int .u32 0, .string ⟨#[]⟩]), 5, 56) := by kernel_rfl
set_option maxRecDepth 100000 in
set_option maxHeartbeats 2000000 in
theorem slCloneSN_any {α : Type} (E : α → List Value) (hE : ∀ x, (E x).length = 5) (hE1 : ∀ x, ∀ u ∈ E x, u.oneCell' = true) (w : World) (v : Value) (l : List α) (h : SlV w 5 E v l) (hl : l.length ≤ 1000000) :
    Calls Tryz.prog 80 #[v] w fun e w' => ∃ v', e = .returned v' ∧ w'.ownsRow w.heap.size 135 5 v' l.length (l.flatMap E) ∧ Below w.heap.size w w' := by
  obtain ⟨A, c, rfl, hc1, hc2, hsl⟩ := h
  cases A with
  | none =>
    have h0 : l = [] := by
      cases l with
      | nil => rfl
      | cons a l => obtain ⟨b, off, h, _⟩ := hsl (by simp); cases h
    subst h0
    have hno := World.ownsRow_nil w w.heap.size 135 5
    have HN := Lib.hid hno; clear hno hsl
    have hnl : ∀ W n c, (binOp .eql 125 (.slice none n c) (.slice none 0 0)).run Tryz.prog W = .ok (.bool true) W := fun W n c => Lib.run_eql_slice_nil W 125 135 none n c 0 0 Tryz.underlying125
    go_enter Tryz.func80, Tryz.ntmps80
    go_wp2_with fail
    go_ret
    exact ⟨_, rfl, HN.out, Below.refl _ _⟩
  | some a =>
    obtain ⟨i0, hi, hz0, hz1, hz2⟩ := info_parts infoESN
    have hlen : (l.flatMap E).length = l.length * 5 := flat_len hE l
    have hone : ∀ u ∈ l.flatMap E, u.oneCell' = true := fun u hu => by
      rw [List.mem_flatMap] at hu
      obtain ⟨x, _, hx⟩ := hu
      exact hE1 x u hx
    have hnews : ∀ j u, (l.flatMap E)[j]? = some u → w.cell? (a.add j) = some u := fun j u hj => by
      have hjl := (List.getElem?_eq_some_iff.1 hj).1
      rw [hlen] at hjl
      obtain ⟨b, off, hA, _, hcs⟩ := hsl (by omega)
      rw [Option.some.inj hA, add_mk]
      have hq : j / 5 < l.length := by omega
      have hr : j % 5 < 5 := Nat.mod_lt _ (by omega)
      have hd : j / 5 * 5 + j % 5 = j := by omega
      have h1 := flat_get hE l (j / 5) hq (j % 5) hr
      rw [hd, hj] at h1
      have h2 := hcs (j / 5) hq (j % 5) hr
      rw [Nat.add_assoc, hd] at h2
      rw [h2, ← h1]
    have hnews1 : ∀ (o : Obj) j u, (l.flatMap E)[j]? = some u → (w.alloc o).cell? (a.add j) = some u := fun o j u hj => by
      have h1 := hnews j u hj
      have hlt := World.block_lt_of_cell? w _ h1
      rw [← h1]
      exact ((Below.refl w.heap.size w).alloc (Nat.le_refl _) o).cell hlt
    have hown := World.ownsRow_made (e := 135) (size := 5) (base := w.heap.size) w #[] 0 (Nat.le_refl _) (by decide) (by simp)
    have hbe : Below w.heap.size w (w.alloc (.cells #[] 135)) := (Below.refl _ _).alloc (Nat.le_refl _) _
    have HH := Lib.hid (And.intro hown hbe); clear hown hbe
    have HL := Lib.hid hlen; clear hlen
    have HO := Lib.hid hone; clear hone
    have HW := Lib.hid hnews1; clear hnews1 hnews
    have HI := Lib.hid (And.intro hi (And.intro hz0 (And.intro hz1 hz2))); clear hi hz0 hz1 hz2
    generalize l.flatMap E = xs at *
    generalize l.length = n at *
    have hnl : ∀ W n c, (binOp .eql 125 (.slice (some a) n c) (.slice none 0 0)).run Tryz.prog W = .ok (.bool false) W := fun W n c => Lib.run_eql_slice_nil W 125 135 (some a) n c 0 0 Tryz.underlying125
    go_enter Tryz.func80, Tryz.ntmps80
    go_wp2_with (at_builtin; refine wpList_append_own _ rfl _ _ 125 rfl w.heap.size 135 i0 (.agg #[.string ⟨#[]⟩, .int .i64 0, .int .i64 0, .int .u32 0, .string ⟨#[]⟩]) 5 56 Tryz.underlying125 HI.out.1 HI.out.2.1 HI.out.2.2.1 HI.out.2.2.2 rfl (by decide) _ _ _ rfl HH.out.1 a n c xs rfl HL.out (HW.out _) HO.out (by unfold maxLen; omega) (by omega) (by simp) ?_; intro v' w1 hown1 hgrow1 hnil1)
    have HP := Lib.hid (And.intro hown1 hgrow1); clear hown1 hgrow1 hnil1
    go_wp2_with fail
    go_ret
    refine ⟨_, rfl, ?_, HH.out.2.grown HP.out.2 (by simp) (fun k hk => ?_)⟩
    · have := HP.out.1
      simpa using this
    · have : w.heap.size = k := Option.some.inj hk
      omega
end Go.Proofs.YtjcbjocgachpjaaGreatDoor
/- slices.BinarySearchFunc over a row of sorted.entry[string,swingle/api.Node], as sorted.Map's find calls it. -/
set_option linter.unusedVariables false
set_option linter.unusedSimpArgs false
namespace Go.Proofs.YtjcbjocgachpjaaGreatDoor
open Go Go.RowKit
open Sw
def SrchPostSN {α : Type} (f : α → Int) (l : List α) (w : World) (e : Ending) (w' : World) : Prop :=
  ∃ i : Nat, i ≤ l.length ∧ (∀ m (h : m < l.length), m < i → f l[m] < 0) ∧ (∀ m (h : m < l.length), i ≤ m → 0 ≤ f l[m]) ∧
    e = .returned (.tuple #[.int .i64 i, .bool (if h : i < l.length then decide (f l[i] = 0) else false)]) ∧ Below w.heap.size w w'
set_option maxRecDepth 100000 in
set_option maxHeartbeats 4000000 in
theorem slSearchSN_any {α : Type} (E : α → List Value) (hE : ∀ x, (E x).length = 5) (f : α → Int) (w : World) (A : Option Addr) (n c g : Nat) (l : List α) (kv : Value) (hl : l.length = n) (hn : n ≤ 1000000) (hsl : SlOf w 5 E A l)
    (hmono : ∀ a b (ha : a < l.length) (hb : b < l.length), a ≤ b → f l[b] < 0 → f l[a] < 0)
    (hcall : ∀ W x, x ∈ l → Below w.heap.size w W → Calls Tryz.prog 117 #[.agg (E x).toArray, kv, .pointer (some ⟨g, 0, none⟩)] W fun e w' => e = .returned (.int .i64 (f x)) ∧ Below W.heap.size W w') :
    Calls Tryz.prog 116 #[.slice A n c, kv, .func (.func 117) #[] #[.pointer (some ⟨g, 0, none⟩)]] w (SrchPostSN f l w) := by
  have HS := Lib.hid hsl; clear hsl
  have HL := Lib.hid hl; clear hl
  have HM := Lib.hid hmono; clear hmono
  have HC := Lib.hid hcall; clear hcall
  have HE := Lib.hid hE; clear hE
  go_enter Tryz.func116, Tryz.ntmps116
  go_wp2_with fail
  go_loopw [9, 10] (fun iv jv wr => ∃ i j : Nat, i ≤ j ∧ j ≤ n ∧ iv = .int .i64 i ∧ jv = .int .i64 j ∧ (∀ m (h : m < l.length), m < i → f l[m] < 0) ∧ (∀ m (h : m < l.length), j ≤ m → 0 ≤ f l[m]) ∧ Below w.heap.size w wr) (fun iv jv _ => (intOf jv - intOf iv).toNat)
  case atStart => exact ⟨0, n, Nat.zero_le _, Nat.le_refl _, rfl, rfl, fun m h h' => by omega, fun m h h' => by have := HL.out; omega, Below.refl _ _⟩
  case round =>
    obtain ⟨i, j, hij, hjn, rfl, rfl, hlo, hhi, hbr⟩ := hrel
    have HLO := Lib.hid hlo; clear hlo
    have HHI := Lib.hid hhi; clear hhi
    by_cases hlt : i < j
    · have hjL : j ≤ l.length := by have := HL.out; omega
      obtain ⟨h, hh⟩ : ∃ h : Nat, ((i : Int) + j) / 2 = h := ⟨(i + j) / 2, by omega⟩
      have hih : i ≤ h := by omega
      have hhj : h < j := by omega
      have hhL : h < l.length := by omega
      obtain ⟨b, off, rfl, hbb, _⟩ := (HS.out.below hbr (Nat.le_refl _)) (by omega)
      have HR := Lib.hid ((HS.out.below hbr (Nat.le_refl _)).range HE.out h hhL)
      have HF := Lib.hid (HC.out wr l[h] (List.getElem_mem hhL) hbr)
      have HX := Lib.hid (HE.out l[h])
      have HLO2 := Lib.hid (fun (hf : f l[h] < 0) m (hm : m < l.length) (hmh : m < h + 1) => (HM.out m h hm hhL (by omega) hf : f l[m] < 0))
      have HHI2 := Lib.hid (fun (hf : ¬ f l[h] < 0) m (hm : m < l.length) (hmh : h ≤ m) => (by
        refine Int.not_lt.1 fun hx => hf ?_
        exact HM.out h m hhL hm hmh hx : 0 ≤ f l[m]))
      generalize f l[h] = fv at *
      generalize E l[h] = ev at *
      have q1 : (i : Int) + j ≤ 2000000 := by omega
      have q2 : (h : Int) < n := by omega
      go_wp2_with (refine wpList_load_mid rfl 135 (.tmp 27) rfl b (off + h * 5) rfl ev _ HR.out Tryz.underlying135 rfl (by rw [HX.out]; kernel_rfl) ?_)
      refine HF.out.mono ?_
      rintro e w2 ⟨rfl, hb2⟩
      have hb3 := hbr.trans (hb2.mono hbr.size)
      clear HR HF
      by_cases hf : fv < 0
      · have H1 := Lib.hid (HLO2.out hf)
        go_wp2_with fail
        go_roundw
        case rel => exact ⟨h + 1, j, by omega, hjn, by go_num, rfl, H1.out, HHI.out, hb3⟩
        case measure => simp [intOf]; omega
      · have H1 := Lib.hid (HHI2.out (by omega))
        go_wp2_with fail
        go_roundw
        case rel => exact ⟨i, h, hih, by omega, rfl, by go_num, HLO.out, H1.out, hb3⟩
        case measure => simp [intOf]; omega
    · obtain rfl : i = j := by omega
      clear hij hlt
      by_cases hin : i < n
      · have hiL : i < l.length := by have := HL.out; omega
        obtain ⟨b, off, rfl, hbb, _⟩ := (HS.out.below hbr (Nat.le_refl _)) (by omega)
        have HR := Lib.hid ((HS.out.below hbr (Nat.le_refl _)).range HE.out i hiL)
        have HF := Lib.hid (HC.out wr l[i] (List.getElem_mem hiL) hbr)
        have HX := Lib.hid (HE.out l[i])
        have HP := Lib.hid (fun w' (hb : Below w.heap.size w w') => (⟨i, by omega, HLO.out, HHI.out, by rw [dif_pos hiL], hb⟩ : SrchPostSN f l w (.returned (.tuple #[.int .i64 i, .bool (decide (f l[i] = 0))])) w'))
        generalize f l[i] = fv at *
        generalize E l[i] = ev at *
        have q2 : (i : Int) < n := by omega
        go_wp2_with (refine wpList_load_row_g rfl 135 (.tmp 43) rfl b (off + i * 5) rfl ev _ HR.out Tryz.underlying135 rfl (by rw [HX.out]; kernel_rfl) ?_)
        refine HF.out.mono ?_
        rintro e w2 ⟨rfl, hb2⟩
        have hb3 := hbr.trans (hb2.mono hbr.size)
        have HQ := Lib.hid (HP.out w2 hb3)
        have hbq : (fv == 0) = decide (fv = 0) := rfl
        go_wp2_with fail
        go_ret2
        exact HQ.out
      · obtain rfl : i = n := by omega
        have HP := Lib.hid (fun w' (hb : Below w.heap.size w w') => (⟨i, by have := HL.out; omega, HLO.out, HHI.out, by rw [dif_neg (by have := HL.out; omega)], hb⟩ : SrchPostSN f l w (.returned (.tuple #[.int .i64 i, .bool false])) w'))
        go_wp2_with fail
        go_ret2
        exact HP.out _ hbr
end Go.Proofs.YtjcbjocgachpjaaGreatDoor
