/- Several texts, joined for the limit of sixty files; each one opens with its own comment. -/
import Derived.Test.YtnpehjgnplaabaaGreatDoorJoin8
import Derived.Test.YtnpehjgnplaabaaGreatDoorJoin2
import Derived.Test.YtnpehjgnplaabaaGreatDoorJoin3
import Derived.Deep.MidRow
import Derived.Lib.AppendZerosOnto
import Derived.Lib.Overlaps
import Derived.Laws.CopyRow
/- Several texts, joined for the limit of sixty files; each one opens with its own comment. -/
/- The reference's rows of items and the tree's: plain. -/
set_option linter.unusedVariables false
set_option linter.unusedSimpArgs false
namespace Sw
open Go
open Go.Proofs.YtnpehjgnplaabaaGreatDoor (partsS)
section
variable {κ ν : Type} {c : κ → κ → Int}
end
/-- a tree's keys are paths -/
def Paths (xs : List NE) : Prop := ∀ e ∈ xs, rightL e.1.data.toList = true
theorem Paths.put {xs : List NE} (h : Paths xs) {p : ByteArray} (hp : rightL p.data.toList = true) (n : Nd) : Paths (putN ordS p n xs) := fun e he => by
  rcases put_mem p n xs e he with rfl | he
  · exact hp
  · exact h e he
/-- the first entry behind a path tells whether something is under it -/
theorem holds_any : ∀ (xs : List NE) (p : ByteArray), Up ordS xs → Paths xs → holdsT xs p = xs.any fun e => inS (upsS e.1) p
  | [], p, _, _ => rfl
  | x :: xs, p, hu, hp => by
    have hno : ∀ e : NE, ordS e.1 p ≤ 0 → inS (upsS e.1) p = false := fun e he => by
      cases hq : inS (upsS e.1) p with
      | false => rfl
      | true =>
        have h1 := ups_order ((inS_iff _ _).1 hq)
        have h2 := ordS_neg p e.1
        omega
    have ih := holds_any xs p hu.tail (fun e he => hp e (List.mem_cons_of_mem _ he))
    unfold holdsT lbN
    by_cases h1 : ordS x.1 p < 0
    · rw [if_pos h1, List.drop_succ_cons, List.any_cons, hno x (by omega), Bool.false_or, ← ih]
      rfl
    · rw [if_neg h1, List.drop_zero]
      by_cases h0 : ordS x.1 p = 0
      · have hxp : x.1 = p := ordS_zero h0
        rw [List.any_cons, hno x (by omega), Bool.false_or, List.find?_cons_of_neg (by simp [hxp])]
        cases xs with
        | nil => rfl
        | cons y ys =>
          have h2 := hu.head y (List.mem_cons_self ..)
          rw [hxp] at h2
          have hyp : ¬ y.1 = p := fun e => by rw [e, ordS_ord.self] at h2; omega
          rw [List.find?_cons_of_pos (by simp [hyp])]
          have hn := ordS_neg p y.1
          unfold holdsT lbN at ih
          rw [if_neg (by omega), List.drop_zero, List.find?_cons_of_pos (by simp [hyp])] at ih
          exact ih
      · have hxp : ¬ x.1 = p := fun e => h0 (by rw [e]; exact ordS_ord.self p)
        rw [List.find?_cons_of_pos (by simp [hxp]), List.any_cons]
        show inS (upsS x.1) p = (inS (upsS x.1) p || _)
        cases hx : inS (upsS x.1) p with
        | true => rfl
        | false =>
          rw [Bool.false_or, eq_comm, List.any_eq_false]
          intro e he hq
          have hq1 := (inS_iff _ _).1 hq
          have h3 := hu.head e he
          have e1 := ordS_three x.1 e.1
          have e2 := ordS_three x.1 p
          have hn := ordS_neg x.1 p
          have := between hq1 (hp x (List.mem_cons_self ..)) (by omega) (by omega)
          rw [(inS_iff _ _).2 this] at hx
          cases hx
/-- the parent is the last of the ups -/
theorem parent_last (p : ByteArray) : (upsS p = [] ∧ parentS p = ⟨#[]⟩) ∨ (∃ h : upsS p ≠ [], (upsS p).getLast h = parentS p ∧ ¬ parentS p = ⟨#[]⟩) := by
  have hlen := upsS_len p
  rcases Nat.lt_or_ge (partsS p).length 2 with h | h
  · left
    have h1 : upsS p = [] := List.length_eq_zero_iff.1 (by omega)
    refine ⟨h1, ?_⟩
    unfold parentS
    have : (partsS p).dropLast = [] := List.length_eq_zero_iff.1 (by rw [List.length_dropLast]; omega)
    rw [this]
    rfl
  · right
    have hne : upsS p ≠ [] := fun e => by rw [e] at hlen; simp at hlen; omega
    have hk : (upsS p).length - 1 < (upsS p).length := by omega
    have hlast : (upsS p).getLast hne = (upsS p)[(upsS p).length - 1] := List.getLast_eq_getElem hne
    have heq : (upsS p).getLast hne = parentS p := by
      rw [hlast, upsS_at]
      unfold parentS
      rw [List.dropLast_eq_take, show (upsS p).length - 1 + 1 = (partsS p).length - 1 by omega]
    refine ⟨hne, heq, fun e => ?_⟩
    have hst := (ups_step p _ hk).2.2
    rw [← hlast, heq, e] at hst
    exact absurd hst (by decide)
end Sw
/- node.mode, node.Right (at a node that is one). -/
set_option linter.unusedVariables false
set_option linter.unusedSimpArgs false
namespace Go.Proofs.YtnpehjgnplaabaaGreatDoor
open Go Go.RowKit
open Sw
theorem nodeMode_any (w : World) (m : Int) :
    Calls Tryz.prog 123 #[.int .i64 m] w fun e w' => e = .returned (.bool (decide (0 ≤ m ∧ m ≤ 511))) ∧ w = w' := by
  by_cases h1 : 0 ≤ m
  · by_cases h2 : m ≤ 511
    · have hd : decide (0 ≤ m ∧ m ≤ 511) = true := by rw [decide_eq_true_eq]; exact ⟨h1, h2⟩
      rw [hd]
      go_enter Tryz.func123, Tryz.ntmps123
      go_wp2_with fail
      go_ret
      exact ⟨rfl, rfl⟩
    · have hd : decide (0 ≤ m ∧ m ≤ 511) = false := by rw [decide_eq_false_iff_not]; omega
      rw [hd]
      go_enter Tryz.func123, Tryz.ntmps123
      go_wp2_with fail
      go_ret
      exact ⟨rfl, rfl⟩
  · have hd : decide (0 ≤ m ∧ m ≤ 511) = false := by rw [decide_eq_false_iff_not]; omega
    rw [hd]
    go_enter Tryz.func123, Tryz.ntmps123
    go_wp2_with fail
    go_ret
    exact ⟨rfl, rfl⟩
set_option maxRecDepth 100000 in
set_option maxHeartbeats 4000000 in
theorem nodeRight_any (w : World) (n : Nd) (hk : ¬ n.kind = 0) (ht0 : 0 ≤ n.time) (ht1 : n.time < 4294967296) (hd : n.data.size ≤ maxLen) :
    Calls Tryz.prog 81 #[.agg n.c] w fun e w' => e = .returned (.int .i64 (nodeR n)) ∧ Below w.heap.size w w' := by
  obtain ⟨kd, md, tm, dt⟩ := n
  simp only at hk ht0 ht1 hd
  unfold maxLen at hd
  have hb0 := (Below.refl w.heap.size w).alloc (Nat.le_refl _) (.cells #[.int .i64 kd, .int .i64 md, .int .u32 tm, .string dt] 57)
  have hB0 := Blk.new w 57 #[.int .i64 kd, .int .i64 md, .int .u32 tm, .string dt]
  have H0 := Lib.hid (And.intro hb0 hB0); clear hb0 hB0
  have HM := Lib.hid (fun W => nodeMode_any W md)
  have e0 : (kd == 0) = false := by rw [beq_eq_false_iff_ne]; exact hk
  have e0' : (kd != 0) = true := by rw [bne_iff_ne]; exact hk
  unfold Nd.c
  have hR : nodeR ⟨kd, md, tm, dt⟩ = if ¬ kd = 1 ∧ ¬ kd = 2 then 8 else if kd = 2 ∧ (¬ dt.data.toList = [] ∨ ¬ tm = 0) then 1 else if ¬ (0 ≤ md ∧ md ≤ 511) then 12 else if kd = 1 ∧ ¬ (splitD tm).Ok then 13 else if (65000 : Int) < dt.size then 4 else 0 := by
    unfold nodeR
    simp [hk]
  rw [hR]
  clear hR
  by_cases h1 : kd = 1
  · subst h1
    rw [if_neg (by omega), if_neg (by omega)]
    have HD := Lib.hid (fun W => dosRight_any W tm ht0 ht1)
    by_cases hm : 0 ≤ md ∧ md ≤ 511
    · rw [decide_eq_true hm] at HM
      rw [if_neg (fun h => h hm)]
      by_cases hk2 : (splitD tm).Ok
      · rw [decide_eq_true hk2] at HD
        rw [if_neg (fun h => h.2 hk2)]
        clear hm hk hk2
        by_cases hs : (65000 : Int) < dt.size
        all_goals
          first | rw [if_pos hs] | rw [if_neg hs]
          go_enter Tryz.func81, Tryz.ntmps81
          go_wp2_with fail
          refine (HM.out _).mono ?_
          rintro e w1 ⟨rfl, rfl⟩
          go_wp2_with fail
          refine (HD.out _).mono ?_
          rintro e w2 ⟨rfl, hb2⟩
          have x3 := (H0.out.2.below hb2 H0.out.2.lt).cell 3
          simp at x3
          have HF := Lib.hid (H0.out.1.trans (hb2.mono H0.out.1.size)); clear hb2
          go_wp2_with fail
          go_ret
          exact ⟨rfl, HF.out⟩
      · rw [decide_eq_false hk2] at HD
        rw [if_pos ⟨rfl, hk2⟩]
        clear hm hk hk2
        go_enter Tryz.func81, Tryz.ntmps81
        go_wp2_with fail
        refine (HM.out _).mono ?_
        rintro e w1 ⟨rfl, rfl⟩
        go_wp2_with fail
        refine (HD.out _).mono ?_
        rintro e w2 ⟨rfl, hb2⟩
        have HF := Lib.hid (H0.out.1.trans (hb2.mono H0.out.1.size)); clear hb2
        go_wp2_with fail
        go_ret
        exact ⟨rfl, HF.out⟩
    · rw [decide_eq_false hm] at HM
      rw [if_pos hm]
      clear hm hk
      go_enter Tryz.func81, Tryz.ntmps81
      go_wp2_with fail
      refine (HM.out _).mono ?_
      rintro e w1 ⟨rfl, rfl⟩
      go_wp2_with fail
      go_ret
      exact ⟨rfl, H0.out.1⟩
  · have e1 : (kd == 1) = false := by rw [beq_eq_false_iff_ne]; exact h1
    have e1' : (kd != 1) = true := by rw [bne_iff_ne]; exact h1
    by_cases h2 : kd = 2
    · subst h2
      rw [if_neg (by omega)]
      by_cases hx : dt.data.toList = []
      · by_cases hy : tm = 0
        · subst hy
          rw [if_neg (by rintro ⟨_, h⟩; rcases h with h | h <;> simp_all)]
          have hdz : dt = ⟨#[]⟩ := by cases dt with | mk d => cases d with | mk l => simp at hx; subst hx; rfl
          subst hdz
          by_cases hm : 0 ≤ md ∧ md ≤ 511
          · rw [decide_eq_true hm] at HM
            rw [if_neg (fun h => h hm), if_neg (by omega), if_neg (by decide)]
            clear hm hk h1 e1 e1' hx
            go_enter Tryz.func81, Tryz.ntmps81
            go_wp2_with fail
            refine (HM.out _).mono ?_
            rintro e w1 ⟨rfl, rfl⟩
            go_wp2_with fail
            go_ret
            exact ⟨rfl, H0.out.1⟩
          · rw [decide_eq_false hm] at HM
            rw [if_pos hm]
            clear hm hk h1 e1 e1' hx
            go_enter Tryz.func81, Tryz.ntmps81
            go_wp2_with fail
            refine (HM.out _).mono ?_
            rintro e w1 ⟨rfl, rfl⟩
            go_wp2_with fail
            go_ret
            exact ⟨rfl, H0.out.1⟩
        · rw [if_pos ⟨rfl, .inr hy⟩]
          have hdz : dt = ⟨#[]⟩ := by cases dt with | mk d => cases d with | mk l => simp at hx; subst hx; rfl
          subst hdz
          have t0 : (tm == 0) = false := by rw [beq_eq_false_iff_ne]; exact hy
          have t1 : (tm != 0) = true := by rw [bne_iff_ne]; exact hy
          clear hk h1 e1 e1' hx hy
          go_enter Tryz.func81, Tryz.ntmps81
          go_wp2_with fail
          go_ret
          exact ⟨rfl, H0.out.1⟩
      · rw [if_pos ⟨rfl, .inl hx⟩]
        have s0 : dt.data.toList.isEmpty = false := by cases hl : dt.data.toList with | nil => exact absurd hl hx | cons a l => rfl
        have s1 : (!dt.data.toList.isEmpty) = true := by rw [s0]; rfl
        have s2 : (dt.data.toList == []) = false := by rw [beq_eq_false_iff_ne]; exact hx
        have s3 : dt.toList.isEmpty = false := by rw [ByteArray.toList_eq]; exact s0
        clear hk h1 e1 e1' hx
        go_enter Tryz.func81, Tryz.ntmps81
        go_wp2_with fail
        go_ret
        exact ⟨rfl, H0.out.1⟩
    · rw [if_pos ⟨h1, h2⟩]
      have e2 : (kd == 2) = false := by rw [beq_eq_false_iff_ne]; exact h2
      have e2' : (kd != 2) = true := by rw [bne_iff_ne]; exact h2
      clear hk h1 h2
      go_enter Tryz.func81, Tryz.ntmps81
      go_wp2_with fail
      go_ret
      exact ⟨rfl, H0.out.1⟩
end Go.Proofs.YtnpehjgnplaabaaGreatDoor
/- Rows that are known whole: copied into, appended to, cleared: elements of however many cells. Over any program. -/
set_option linter.unusedVariables false
set_option linter.unusedSimpArgs false
namespace Sw
open Go Go.RowKit
section
variable {P : Program}
theorem Blk.setRow {w : World} {g : Nat} {t : TypeId} {cur : Array Value} (h : Blk w g t cur) (cs : Array Value) : Blk (w.setRow g cs) g t cs := setRow_heap w g cur cs t (0, 0) h
theorem grown_setRow (w : World) (g : Nat) (cs : Array Value) : w.grownBy (w.setRow g cs) (some g) := ⟨rfl, rfl, rfl, by simp, fun k _ hk => setRow_other w g k _ (fun e => hk (by rw [e]))⟩
theorem Blk.shape {w : World} {g : Nat} {t : TypeId} {cs : Array Value} (h : Blk w g t cs) : w.shape? g = some (t, cs.size) := by unfold Blk at h; simp [World.shape?, h]
theorem Blk.at {w : World} {g : Nat} {t : TypeId} {cs : Array Value} (h : Blk w g t cs) (o : Nat) : ∀ j v, (cs.toList.drop o)[j]? = some v → w.cell? ((⟨g, o, none⟩ : Addr).add j) = some v := fun j v hj => by
  rw [add_mk, h.cell, ← Array.getElem?_toList, ← hj, List.getElem?_drop]
/-- copy(d, s), d a part of a row that is known whole -/
theorem run_copy_rows (w : World) (dT sT ty elem : TypeId) (size g o dLen dCap : Nat) (a : Addr) (sLen sCap : Nat) (cur : Array Value) (t : TypeId) (cs : List Value) (k : Nat)
    (hu : P.underlying dT = some (.slice elem)) (hs : (P.info? elem).map (·.size) = some size) (hg : Blk w g t cur) (hk : Nat.min sLen dLen = k) (hn : cs.length = k * size)
    (hsrc : ∀ j v, cs[j]? = some v → w.cell? (a.add j) = some v) (hfit : o + cs.length ≤ cur.size) (h1 : ∀ v ∈ cs, v.oneCell' = true) :
    (Builtin.copy_ #[dT, sT] ty #[.slice (some ⟨g, o, none⟩) dLen dCap, .slice (some a) sLen sCap]).run P w =
      .ok (goInt k) (w.setRow g (cur.toList.take o ++ cs ++ cur.toList.drop (o + cs.length)).toArray) := by
  have hl := run_loadCells_list (P := P) w a cs hsrc
  have hst := run_storeCells_at P g o t cs 0 cur w hg (by simpa using hfit) h1
  cases hq : P.info? elem with
  | none => simp [hq] at hs
  | some i =>
    have hi : i.size = size := by simpa [hq] using hs
    simp [Builtin.copy_, run_underlying hu, Builtin.lenOf, Builtin.firstCells, Go.sizeOf, typeInfo, hq, hi, hk, ← hn, hl, hst]
/-- clear(s), s a part of a row that is known whole -/
theorem run_clear_rows (w : World) (t e : TypeId) (z : Value) (size : Nat) (ht : P.underlying t = some (.slice e)) (hv : ∀ w, (zeroValue e).run P w = .ok z w) (hz : z.cells.size = size) (h1 : ∀ u ∈ z.cells.toList, u.oneCell' = true) (g o n c : Nat) (hn : 0 < n)
    (cur : Array Value) (te : TypeId) (hg : Blk w g te cur) (hfit : o + n * size ≤ cur.size) :
    ∃ cur', (∀ ty, (Builtin.clear_ #[t] ty #[.slice (some ⟨g, o, none⟩) n c]).run P w = .ok (.tuple #[]) (w.setRow g cur')) ∧ cur'.size = cur.size ∧ cur'.toList.take o = cur.toList.take o := by
  have hl : (Builtin.zeroCells z.cells n).toList.length = n * size := by rw [Array.length_toList, size_zeroCells, hz]
  have ho : ∀ v ∈ (Builtin.zeroCells z.cells n).toList, v.oneCell' = true := fun v hv => by
    simp only [Builtin.zeroCells, Array.toList_map, List.mem_map] at hv
    obtain ⟨i, hi, rfl⟩ := hv
    have hi' : i < n * z.cells.size := by simpa using hi
    have hz0 : 0 < z.cells.size := by
      rcases Nat.eq_zero_or_pos z.cells.size with h0 | h0
      · rw [h0] at hi'; omega
      · exact h0
    rw [getElem!_pos z.cells (i % z.cells.size) (Nat.mod_lt _ hz0)]
    exact h1 _ (by simp)
  have hst := run_storeCells_at P g o te (Builtin.zeroCells z.cells n).toList 0 cur w hg (by rw [hl]; simpa using hfit) ho
  refine ⟨(cur.toList.take o ++ (Builtin.zeroCells z.cells n).toList ++ cur.toList.drop (o + (Builtin.zeroCells z.cells n).toList.length)).toArray, ?_, ?_, ?_⟩
  · intro ty
    obtain ⟨m, rfl⟩ : ∃ m, n = m + 1 := ⟨n - 1, by omega⟩
    simp only [Nat.add_zero] at hst
    simp [Builtin.clear_, run_underlying ht, hv, hst]
  · simp only [List.size_toArray, List.length_append, List.length_take, List.length_drop, hl, Array.length_toList]
    omega
  · rw [List.toList_toArray, List.append_assoc, List.take_append_of_le_length (by rw [List.length_take, Array.length_toList]; omega), List.take_take, Nat.min_self]
theorem wp_builtin_run {b : Builtin} (w : World) {o : Oper} {a : Act} {K : Act → World → Prop} {Q : Exit → Act → World → Prop} (d s : Operand) (t t' : TypeId)
    (ho : o.op = .call { callee := .builtin .copy, args := #[d, s], argTypes := #[t, t'] }) (v u : Value) (hd : a.eval d = v) (hs : a.eval s = u) {v' : Value} {w' : World}
    (hr : (Builtin.copy_ #[t, t'] o.type #[v, u]).run P w = .ok v' w') (h : K (a.put o.dst v') w') : o.wp P a w K Q := by
  unfold Oper.wp execOp
  simp only [ho, resolve, invoke, builtin, Sem.run_bind, Sem.run_pure, Result.andThen_ok, List.map_toArray, List.map_cons, List.map_nil, hd, hs, hr]
  exact h
theorem wpList_copy_rows (w : World) {ops : Array Oper} {rest : List Oper} {o : Oper} {a : Act} {Q : Exit → Act → World → Prop} (hgd : o.guard = none) (d s : Operand) (t t' : TypeId)
    (ho : o.op = .call { callee := .builtin .copy, args := #[d, s], argTypes := #[t, t'] }) (v u : Value) (hd : a.eval d = v) (hs : a.eval s = u) {v' : Value} {w' : World}
    (hr : (Builtin.copy_ #[t, t'] o.type #[v, u]).run P w = .ok v' w') (h : wpList P ops Q rest (a.put o.dst v') w') : wpList P ops Q (o :: rest) a w :=
  wpList_plain hgd fun _ hK => wp_builtin_run (b := .copy) w d s t t' ho v u hd hs hr (hK _ _ h)
theorem wpList_clear_rows (w : World) {ops : Array Oper} {rest : List Oper} {o : Oper} {a : Act} {Q : Exit → Act → World → Prop} (hgd : o.guard = none) (x : Operand) (t : TypeId)
    (ho : o.op = .call { callee := .builtin .clear, args := #[x], argTypes := #[t] }) (v : Value) (hx : a.eval x = v) {v' : Value} {w' : World}
    (hr : (Builtin.clear_ #[t] o.type #[v]).run P w = .ok v' w') (h : wpList P ops Q rest (a.put o.dst v') w') : wpList P ops Q (o :: rest) a w :=
  wpList_plain hgd fun _ hK => by
    unfold Oper.wp execOp
    simp only [ho, resolve, invoke, builtin, Sem.run_bind, Sem.run_pure, Result.andThen_ok, List.map_toArray, List.map_cons, List.map_nil, hx, hr]
    exact hK _ _ h
/-- s[l:]: one address, whether the capacity is all or not -/
theorem slice_from (t e : TypeId) (size : Nat) (ht : P.underlying t = some (.slice e)) (hel : P.elem t = e) (hsz : ∀ w, (Go.sizeOf e).run P w = .ok size w) (b off N c n : Nat) (l : Int) (hl : l = n) (hn : n ≤ N) :
    ∃ a, (∀ W, (Instr.slice t (.slice (some ⟨b, off, none⟩) N c) (some (.int .i64 l)) none none).run P W = .ok (.slice (some a) (N - n) (c - n)) W) ∧ (n < c → a = ⟨b, off + n * size, none⟩) ∧ a.block = b ∧ a.spot = none := by
  subst hl
  refine ⟨if c = n then ⟨b, off, none⟩ else ⟨b, off + n * size, none⟩, fun W => ?_, fun h => if_neg (by omega), by split <;> rfl, by split <;> rfl⟩
  rw [run_slice_l (P := P) (w := W) t (some ⟨b, off, none⟩) N c (by rw [hel]; exact ht) .i64 (n : Int) (by omega) (by omega), hel, hsz]
  simp only [Result.andThen, sliced, Int.toNat_natCast]
  congr 2
  by_cases h : c = n
  · rw [if_pos h, if_pos h]
  · rw [if_neg h, if_neg h]
    simp [add_mk]
/-- a load of a row in the midst of a block, guarded or not -/
theorem wpList_load_row_g {ops : Array Oper} {rest : List Oper} {op : Oper} {a : Act} {w : World} {Q : Exit → Act → World → Prop} (hw : Region.wanted op (yielded ops a.tmps) = true) (ty : TypeId) (x : Operand) (ho : op.op = .load ty x)
    (b o : Nat) (hx : a.eval x = .pointer (some ⟨b, o, none⟩)) (cs : List Value) (d : TypeDesc) (hc : w.rangeAt b o cs)
    (hu : P.underlying ty = some d) (hd : d.isRow = true) (hi : (P.info? ty).map (·.size) = some cs.length)
    (h : wpList P ops Q rest (a.put op.dst (.agg cs.toArray)) w) : wpList P ops Q (op :: rest) a w :=
  wpList_step fun K hK => by
    rw [if_pos hw]
    exact wp_load_mid ty x ho b o hx cs d hc hu hd hi (hK _ _ h)
theorem step_copy_rows {ops : Array Oper} {o : Oper} {a : Act} {w : World} {K : Act → World → Prop} {Q : Exit → Act → World → Prop} {E : Prop}
    (hg : o.guard = none) (d x : Operand) (dT sT : TypeId) (hop : o.op = Op.call { callee := Callee.builtin Builtin.copy, args := #[d, x], argTypes := #[dT, sT] })
    (v u : Value) (hd : a.eval d = v) (hx : a.eval x = u) {v' : Value} {w' : World} (hr : (Builtin.copy_ #[dT, sT] o.type #[v, u]).run P w = .ok v' w') (hK : K (a.put o.dst v') w') :
    if Region.wanted o (yielded ops a.tmps) = true then Oper.wp P o a w K Q else E := by
  have hw : Region.wanted o (yielded ops a.tmps) = true := by simp [Region.wanted, hg]
  rw [if_pos hw]
  unfold Oper.wp
  simp [execOp, hop, resolve, invoke, builtin, hd, hx, hr, Result.andThen]
  exact hK
end
/-- what lies in a row behind two copies: shifted up, then put -/
theorem ins_cells (cur cx : List Value) (a b s : Nat) (hab : a ≤ b) (hb : b + s ≤ cur.length) (hx : cx.length = s) :
    let cs := (cur.take b).drop a
    let c1 := cur.take (a + s) ++ cs ++ cur.drop (a + s + cs.length)
    let c2 := c1.take a ++ cx ++ c1.drop (a + cx.length)
    c2.take (b + s) = cur.take a ++ cx ++ cs ∧ c2.length = cur.length ∧ c1.length = cur.length ∧ cs.length = b - a := by
  intro cs c1 c2
  have hcs : cs.length = b - a := by simp only [cs, List.length_drop, List.length_take]; omega
  have h1 : c1.length = cur.length := by simp only [c1, List.length_append, List.length_take, List.length_drop, hcs]; omega
  have h2 : c1.take a = cur.take a := by
    simp only [c1, List.append_assoc]
    rw [List.take_append_of_le_length (by rw [List.length_take]; omega), List.take_take]
    congr 1; omega
  have h3 : c1.drop (a + s) = cs ++ cur.drop (a + s + cs.length) := by
    simp only [c1, List.append_assoc]
    rw [List.drop_append_of_le_length (by rw [List.length_take]; omega)]
    rw [show (cur.take (a + s)).drop (a + s) = [] from List.drop_eq_nil_of_le (by rw [List.length_take]; omega), List.nil_append]
  refine ⟨?_, ?_, h1, hcs⟩
  · simp only [c2]
    rw [h2, hx, h3, ← List.append_assoc]
    exact List.take_left' (by simp only [List.length_append, List.length_take, hcs, hx]; omega)
  · simp only [c2, List.length_append, List.length_take, List.length_drop, h1, hx]; omega
/-- what lies in a row behind two copies: put, then what is behind it -/
theorem ins_cells2 (R cx cs : List Value) (a s : Nat) (hb : a + s + cs.length ≤ R.length) (hx : cx.length = s) :
    let r1 := R.take a ++ cx ++ R.drop (a + cx.length)
    let r2 := r1.take (a + s) ++ cs ++ r1.drop (a + s + cs.length)
    r2.take (a + s + cs.length) = R.take a ++ cx ++ cs ∧ r2.length = R.length ∧ r1.length = R.length := by
  intro r1 r2
  have h1 : r1.length = R.length := by simp only [r1, List.length_append, List.length_take, List.length_drop, hx]; omega
  have h2 : r1.take (a + s) = R.take a ++ cx := by
    simp only [r1]
    exact List.take_left' (by simp only [List.length_append, List.length_take, hx]; omega)
  refine ⟨?_, ?_, h1⟩
  · simp only [r2]
    rw [h2]
    exact List.take_left' (by simp only [List.length_append, List.length_take, hx]; omega)
  · simp only [r2, List.length_append, List.length_take, List.length_drop, h1]; omega
theorem flat_take {α β : Type} {E : α → List β} {size : Nat} (hE : ∀ x, (E x).length = size) : ∀ (l : List α) (i : Nat), (l.take i).flatMap E = (l.flatMap E).take (i * size)
  | [], i => by simp
  | a :: l, 0 => by simp
  | a :: l, i + 1 => by
    rw [List.take_succ_cons, List.flatMap_cons, List.flatMap_cons, flat_take hE l i, show (i + 1) * size = (E a).length + i * size by rw [hE, Nat.add_mul]; omega, List.take_length_add_append]
theorem flat_drop {α β : Type} {E : α → List β} {size : Nat} (hE : ∀ x, (E x).length = size) : ∀ (l : List α) (i : Nat), (l.drop i).flatMap E = (l.flatMap E).drop (i * size)
  | [], i => by simp
  | a :: l, 0 => by simp
  | a :: l, i + 1 => by
    rw [List.drop_succ_cons, List.flatMap_cons, flat_drop hE l i, show (i + 1) * size = (E a).length + i * size by rw [hE, Nat.add_mul]; omega, List.drop_length_add_append]
theorem own_wide {w : World} {base base' : Nat} {e : TypeId} {size n : Nat} {v : Value} {xs : List Value} (h : w.ownsRow base e size v n xs) (hb : base' ≤ base) : w.ownsRow base' e size v n xs := by
  refine ⟨h.1, ?_⟩
  rcases h.2 with h0 | ⟨g, cap, cur, hv, hg, h1⟩
  · exact .inl h0
  · exact .inr ⟨g, cap, cur, hv, Nat.le_trans hb hg, h1⟩
theorem SlV_of_any {w : World} {base : Nat} {e : TypeId} {size n : Nat} {v : Value} {xs : List Value} (h : w.ownsRow base e size v n xs) : ∃ A c, v = .slice A n c ∧ n ≤ c ∧ c ≤ maxLen ∧ True := by
  rcases h.2 with ⟨rfl, rfl⟩ | ⟨g, cap, cur, rfl, _, _, h1, h2, _⟩
  · exact ⟨none, 0, rfl, Nat.le_refl _, by simp [maxLen], trivial⟩
  · exact ⟨_, cap, rfl, h1, h2, trivial⟩
/-- cells of an own row are stored -/
theorem own_setCells {base : Nat} {e : TypeId} {size n g cap : Nat} : ∀ (us : List Value) (o : Nat) (w : World) (xs : List Value), w.ownsRow base e size (.slice (some ⟨g, 0, none⟩) n cap) n xs → o + us.length ≤ n * size →
    (w.setCells g o us).ownsRow base e size (.slice (some ⟨g, 0, none⟩) n cap) n (xs.take o ++ us ++ xs.drop (o + us.length))
  | [], o, w, xs, h, _ => by
    rw [World.setCells, List.append_nil, List.length_nil, Nat.add_zero, List.take_append_drop]
    exact h
  | u :: us, o, w, xs, h, hl => by
    rw [List.length_cons] at hl
    have h1 := own_setCells us (o + 1) (w.setCell ⟨g, o, none⟩ u) (xs.set o u) (h.stored o u).1 (by omega)
    rw [World.setCells]
    have e1 : xs.take o ++ u :: us ++ xs.drop (o + (u :: us).length) = (xs.set o u).take (o + 1) ++ us ++ (xs.set o u).drop (o + 1 + us.length) := by
      have hx := h.1
      have := list_seg_step xs o u us (by omega)
      rw [this, List.length_cons]
    rw [e1]
    exact h1
theorem grown_setCells {a : World} {g : Nat} : ∀ (us : List Value) (o : Nat) (w : World), a.grownBy w (some g) → a.grownBy (w.setCells g o us) (some g)
  | [], _, _, h => h
  | u :: us, o, w, h => by rw [World.setCells]; exact grown_setCells us (o + 1) _ (grown_put h o u)
theorem flat_put {α β : Type} {E : α → List β} {size : Nat} (hE : ∀ x, (E x).length = size) (l : List α) (i : Nat) (h : i < l.length) (x : α) (o : Nat) (us : List β) (ho : o + us.length ≤ size) (hx : E x = (E l[i]).take o ++ us ++ (E l[i]).drop (o + us.length)) :
    (l.flatMap E).take (i * size + o) ++ us ++ (l.flatMap E).drop (i * size + o + us.length) = (l.set i x).flatMap E := by
  have hl : l = l.take i ++ l[i] :: l.drop (i + 1) := by rw [← List.drop_eq_getElem_cons h, List.take_append_drop]
  have hP : ((l.take i).flatMap E).length = i * size := by rw [flat_len hE, List.length_take, Nat.min_eq_left (Nat.le_of_lt h)]
  have hF : l.flatMap E = (l.take i).flatMap E ++ (E l[i] ++ (l.drop (i + 1)).flatMap E) := by
    conv => lhs; rw [hl]
    rw [List.flatMap_append, List.flatMap_cons]
  rw [hF, List.set_eq_take_append_cons_drop, if_pos h, List.flatMap_append, List.flatMap_cons, hx]
  rw [← hP, List.take_length_add_append, Nat.add_assoc, List.drop_length_add_append, List.take_append_of_le_length (by rw [hE]; omega), List.drop_append_of_le_length (by rw [hE]; omega)]
  simp only [List.append_assoc]
/-- a step that turns a block which lies behind what a has -/
theorem grown_sub {a w w' : World} {row row' : Option Nat} (h : a.grownBy w row) (k : w.grownBy w' row') (hr : ∀ g, row' = some g → a.heap.size ≤ g) : a.grownBy w' row :=
  ⟨k.os.trans h.os, k.tape.trans h.tape, k.output.trans h.output, Nat.le_trans h.size k.size, fun i hi hn => (k.block i (Nat.lt_of_lt_of_le hi h.size) (fun e => by have := hr i e.symm; omega)).trans (h.block i hi hn)⟩
/-- an element is read out of a slice -/
theorem SlOf.range {w : World} {size : Nat} {α : Type} {E : α → List Value} {b off : Nat} {l : List α} (h : SlOf w size E (some ⟨b, off, none⟩) l) (hE : ∀ x, (E x).length = size) (i : Nat) (hi : i < l.length) : w.rangeAt b (off + i * size) (E l[i]) := by
  obtain ⟨b', off', hA, _, hc⟩ := h (by omega)
  have hA' : (⟨b, off, none⟩ : Addr) = ⟨b', off', none⟩ := Option.some.inj hA
  have hb : b = b' := congrArg Addr.block hA'
  have ho : off = off' := congrArg Addr.off hA'
  subst hb
  subst ho
  intro j v hj
  have hjl : j < size := by rw [← hE l[i]]; exact (List.getElem?_eq_some_iff.1 hj).1
  rw [hc i hi j hjl, hj]
/-- what is in the first cells of a row that the call owns -/
theorem own_form {w : World} {base : Nat} {e : TypeId} {size n : Nat} {v : Value} {xs : List Value} (h : w.ownsRow base e size v n xs) (hn : 0 < n) :
    ∃ g cap cur, v = .slice (some ⟨g, 0, none⟩) n cap ∧ base ≤ g ∧ Blk w g e cur ∧ n ≤ cap ∧ cap ≤ maxLen ∧ cur.size = cap * size ∧ cur.toList.take (n * size) = xs := by
  rcases h.2 with ⟨_, h0⟩ | ⟨g, cap, cur, hv, hb, hg, h1, h2, h3, h4⟩
  · omega
  · exact ⟨g, cap, cur, hv, hb, hg, h1, h2, h3, h4⟩
theorem own_mk {w : World} {base : Nat} {e : TypeId} {size n g cap : Nat} {cur : Array Value} {xs : List Value} (hb : base ≤ g) (hg : Blk w g e cur) (h1 : n ≤ cap) (h2 : cap ≤ maxLen) (h3 : cur.size = cap * size) (h4 : cur.toList.take (n * size) = xs) :
    w.ownsRow base e size (.slice (some ⟨g, 0, none⟩) n cap) n xs := by
  refine ⟨?_, .inr ⟨g, cap, cur, rfl, hb, hg, h1, h2, h3, h4⟩⟩
  rw [← h4, List.length_take, Array.length_toList, h3]
  have : n * size ≤ cap * size := Nat.mul_le_mul_right _ h1
  omega
end Sw
