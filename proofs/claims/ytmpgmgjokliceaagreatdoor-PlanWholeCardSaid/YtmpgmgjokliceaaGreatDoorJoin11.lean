/- Several texts, joined for the limit of sixty files; each one opens with its own comment. -/
import Derived.Test.YtmpgmgjokliceaaGreatDoorJoin2
import Derived.Test.YtmpgmgjokliceaaGreatDoorJoin3
import Derived.Deep.MidRow
import Derived.Lib.AppendZerosOnto
import Derived.Lib.Overlaps
import Derived.Laws.CopyRow
import Derived.Test.YtmpgmgjokliceaaGreatDoorChecked
import Derived.Test.YtmpgmgjokliceaaGreatDoorJoin8
import Derived.Test.YtmpgmgjokliceaaGreatDoorJoin5
/- Rows that are known whole: copied into, appended to, cleared: elements of however many cells. Over any program. -/
set_option linter.unusedVariables false
set_option linter.unusedSimpArgs false
namespace Sw
open Go Go.RowKit
section
variable {P : Program}
theorem Blk.setRow {w : World} {g : Nat} {t : TypeId} {cur : Array Value} (h : Blk w g t cur) (cs : Array Value) : Blk (w.setRow g cs) g t cs := setRow_heap w g cur cs t (0, 0) h
theorem grown_setRow (w : World) (g : Nat) (cs : Array Value) : w.grownBy (w.setRow g cs) (some g) := ⟨rfl, rfl, rfl, by simp, fun k _ hk => setRow_other w g k _ (fun e => hk (by rw [e]))⟩
theorem grown_some {a w w' : World} {g : Nat} (h : a.grownBy w (some g)) (k : w.grownBy w' (some g)) : a.grownBy w' (some g) := grown_trans h k
theorem Blk.shape {w : World} {g : Nat} {t : TypeId} {cs : Array Value} (h : Blk w g t cs) : w.shape? g = some (t, cs.size) := by unfold Blk at h; simp [World.shape?, h]
theorem Blk.at {w : World} {g : Nat} {t : TypeId} {cs : Array Value} (h : Blk w g t cs) (o : Nat) : ∀ j v, (cs.toList.drop o)[j]? = some v → w.cell? ((⟨g, o, none⟩ : Addr).add j) = some v := fun j v hj => by
  rw [add_mk, h.cell, ← Array.getElem?_toList, ← hj, List.getElem?_drop]
/-- copy(d, s), d a part of a row that is known whole -/
theorem run_copy_rows (w : World) (dT sT ty elem : TypeId) (size g o dLen dCap : Nat) (a : Addr) (sLen sCap : Nat) (cur : Array Value) (t : TypeId) (cs : List Value) (k : Nat)
    (hu : P.underlying dT = some (.slice elem)) (hs : (P.info? elem).map (·.size) = some size) (hg : Blk w g t cur) (hk : Nat.min sLen dLen = k) (hn : cs.length = k * size)
    (hsrc : ∀ j v, cs[j]? = some v → w.cell? (a.add j) = some v) (hfit : o + cs.length ≤ cur.size) (h1 : ∀ v ∈ cs, v.oneCell' = true) :
    (Builtin.copy_ #[dT, sT] ty #[.slice (some ⟨g, o, none⟩) dLen dCap, .slice (some a) sLen sCap]).run P w =
      .ok (goInt k) (w.setRow g (cur.toList.take o ++ cs ++ cur.toList.drop (o + cs.length)).toArray) := by
  have hl := run_loadCells_list (P := P) w a cs hsrc
  have hst := run_storeCells_at P g o t cs 0 cur w hg (by simpa using hfit) h1
  cases hq : P.info? elem with
  | none => simp [hq] at hs
  | some i =>
    have hi : i.size = size := by simpa [hq] using hs
    simp [Builtin.copy_, run_underlying hu, Builtin.lenOf, Builtin.firstCells, Go.sizeOf, typeInfo, hq, hi, hk, ← hn, hl, hst]
/-- clear(s), s a part of a row that is known whole -/
theorem run_clear_rows (w : World) (t e : TypeId) (z : Value) (size : Nat) (ht : P.underlying t = some (.slice e)) (hv : ∀ w, (zeroValue e).run P w = .ok z w) (hz : z.cells.size = size) (h1 : ∀ u ∈ z.cells.toList, u.oneCell' = true) (g o n c : Nat) (hn : 0 < n)
    (cur : Array Value) (te : TypeId) (hg : Blk w g te cur) (hfit : o + n * size ≤ cur.size) :
    ∃ cur', (∀ ty, (Builtin.clear_ #[t] ty #[.slice (some ⟨g, o, none⟩) n c]).run P w = .ok (.tuple #[]) (w.setRow g cur')) ∧ cur'.size = cur.size ∧ cur'.toList.take o = cur.toList.take o := by
  have hl : (Builtin.zeroCells z.cells n).toList.length = n * size := by rw [Array.length_toList, size_zeroCells, hz]
  have ho : ∀ v ∈ (Builtin.zeroCells z.cells n).toList, v.oneCell' = true := fun v hv => by
    simp only [Builtin.zeroCells, Array.toList_map, List.mem_map] at hv
    obtain ⟨i, hi, rfl⟩ := hv
    have hi' : i < n * z.cells.size := by simpa using hi
    have hz0 : 0 < z.cells.size := by
      rcases Nat.eq_zero_or_pos z.cells.size with h0 | h0
      · rw [h0] at hi'; omega
      · exact h0
    rw [getElem!_pos z.cells (i % z.cells.size) (Nat.mod_lt _ hz0)]
    exact h1 _ (by simp)
  have hst := run_storeCells_at P g o te (Builtin.zeroCells z.cells n).toList 0 cur w hg (by rw [hl]; simpa using hfit) ho
  refine ⟨(cur.toList.take o ++ (Builtin.zeroCells z.cells n).toList ++ cur.toList.drop (o + (Builtin.zeroCells z.cells n).toList.length)).toArray, ?_, ?_, ?_⟩
  · intro ty
    obtain ⟨m, rfl⟩ : ∃ m, n = m + 1 := ⟨n - 1, by omega⟩
    simp only [Nat.add_zero] at hst
    simp [Builtin.clear_, run_underlying ht, hv, hst]
  · simp only [List.size_toArray, List.length_append, List.length_take, List.length_drop, hl, Array.length_toList]
    omega
  · rw [List.toList_toArray, List.append_assoc, List.take_append_of_le_length (by rw [List.length_take, Array.length_toList]; omega), List.take_take, Nat.min_self]
theorem wp_builtin_run {b : Builtin} (w : World) {o : Oper} {a : Act} {K : Act → World → Prop} {Q : Exit → Act → World → Prop} (d s : Operand) (t t' : TypeId)
    (ho : o.op = .call { callee := .builtin .copy, args := #[d, s], argTypes := #[t, t'] }) (v u : Value) (hd : a.eval d = v) (hs : a.eval s = u) {v' : Value} {w' : World}
    (hr : (Builtin.copy_ #[t, t'] o.type #[v, u]).run P w = .ok v' w') (h : K (a.put o.dst v') w') : o.wp P a w K Q := by
  unfold Oper.wp execOp
  simp only [ho, resolve, invoke, builtin, Sem.run_bind, Sem.run_pure, Result.andThen_ok, List.map_toArray, List.map_cons, List.map_nil, hd, hs, hr]
  exact h
theorem wpList_copy_rows (w : World) {ops : Array Oper} {rest : List Oper} {o : Oper} {a : Act} {Q : Exit → Act → World → Prop} (hgd : o.guard = none) (d s : Operand) (t t' : TypeId)
    (ho : o.op = .call { callee := .builtin .copy, args := #[d, s], argTypes := #[t, t'] }) (v u : Value) (hd : a.eval d = v) (hs : a.eval s = u) {v' : Value} {w' : World}
    (hr : (Builtin.copy_ #[t, t'] o.type #[v, u]).run P w = .ok v' w') (h : wpList P ops Q rest (a.put o.dst v') w') : wpList P ops Q (o :: rest) a w :=
  wpList_plain hgd fun _ hK => wp_builtin_run (b := .copy) w d s t t' ho v u hd hs hr (hK _ _ h)
theorem wpList_clear_rows (w : World) {ops : Array Oper} {rest : List Oper} {o : Oper} {a : Act} {Q : Exit → Act → World → Prop} (hgd : o.guard = none) (x : Operand) (t : TypeId)
    (ho : o.op = .call { callee := .builtin .clear, args := #[x], argTypes := #[t] }) (v : Value) (hx : a.eval x = v) {v' : Value} {w' : World}
    (hr : (Builtin.clear_ #[t] o.type #[v]).run P w = .ok v' w') (h : wpList P ops Q rest (a.put o.dst v') w') : wpList P ops Q (o :: rest) a w :=
  wpList_plain hgd fun _ hK => by
    unfold Oper.wp execOp
    simp only [ho, resolve, invoke, builtin, Sem.run_bind, Sem.run_pure, Result.andThen_ok, List.map_toArray, List.map_cons, List.map_nil, hx, hr]
    exact hK _ _ h
theorem step_append_run {ops : Array Oper} {o : Oper} {a : Act} {w : World} {K : Act → World → Prop} {Q : Exit → Act → World → Prop} {E : Prop}
    (hg : o.guard = none) (d x : Operand) (dT sT : TypeId) (hop : o.op = Op.call { callee := Callee.builtin Builtin.append, args := #[d, x], argTypes := #[dT, sT] })
    (v u : Value) (hd : a.eval d = v) (hx : a.eval x = u) {v' : Value} {w' : World} (hr : (Builtin.append_ #[dT, sT] o.type #[v, u]).run P w = .ok v' w') (hK : K (a.put o.dst v') w') :
    if Region.wanted o (yielded ops a.tmps) = true then Oper.wp P o a w K Q else E := by
  have hw : Region.wanted o (yielded ops a.tmps) = true := by simp [Region.wanted, hg]
  rw [if_pos hw]
  unfold Oper.wp
  simp [execOp, hop, resolve, invoke, builtin, hd, hx, hr, Result.andThen]
  exact hK
/-- s[l:]: one address, whether the capacity is all or not -/
theorem slice_from (t e : TypeId) (size : Nat) (ht : P.underlying t = some (.slice e)) (hel : P.elem t = e) (hsz : ∀ w, (Go.sizeOf e).run P w = .ok size w) (b off N c n : Nat) (l : Int) (hl : l = n) (hn : n ≤ N) :
    ∃ a, (∀ W, (Instr.slice t (.slice (some ⟨b, off, none⟩) N c) (some (.int .i64 l)) none none).run P W = .ok (.slice (some a) (N - n) (c - n)) W) ∧ (n < c → a = ⟨b, off + n * size, none⟩) ∧ a.block = b ∧ a.spot = none := by
  subst hl
  refine ⟨if c = n then ⟨b, off, none⟩ else ⟨b, off + n * size, none⟩, fun W => ?_, fun h => if_neg (by omega), by split <;> rfl, by split <;> rfl⟩
  rw [run_slice_l (P := P) (w := W) t (some ⟨b, off, none⟩) N c (by rw [hel]; exact ht) .i64 (n : Int) (by omega) (by omega), hel, hsz]
  simp only [Result.andThen, sliced, Int.toNat_natCast]
  congr 2
  by_cases h : c = n
  · rw [if_pos h, if_pos h]
  · rw [if_neg h, if_neg h]
    simp [add_mk]
/-- a load of a row in the midst of a block, guarded or not -/
theorem wpList_load_row_g {ops : Array Oper} {rest : List Oper} {op : Oper} {a : Act} {w : World} {Q : Exit → Act → World → Prop} (hw : Region.wanted op (yielded ops a.tmps) = true) (ty : TypeId) (x : Operand) (ho : op.op = .load ty x)
    (b o : Nat) (hx : a.eval x = .pointer (some ⟨b, o, none⟩)) (cs : List Value) (d : TypeDesc) (hc : w.rangeAt b o cs)
    (hu : P.underlying ty = some d) (hd : d.isRow = true) (hi : (P.info? ty).map (·.size) = some cs.length)
    (h : wpList P ops Q rest (a.put op.dst (.agg cs.toArray)) w) : wpList P ops Q (op :: rest) a w :=
  wpList_step fun K hK => by
    rw [if_pos hw]
    exact wp_load_mid ty x ho b o hx cs d hc hu hd hi (hK _ _ h)
theorem step_copy_rows {ops : Array Oper} {o : Oper} {a : Act} {w : World} {K : Act → World → Prop} {Q : Exit → Act → World → Prop} {E : Prop}
    (hg : o.guard = none) (d x : Operand) (dT sT : TypeId) (hop : o.op = Op.call { callee := Callee.builtin Builtin.copy, args := #[d, x], argTypes := #[dT, sT] })
    (v u : Value) (hd : a.eval d = v) (hx : a.eval x = u) {v' : Value} {w' : World} (hr : (Builtin.copy_ #[dT, sT] o.type #[v, u]).run P w = .ok v' w') (hK : K (a.put o.dst v') w') :
    if Region.wanted o (yielded ops a.tmps) = true then Oper.wp P o a w K Q else E := by
  have hw : Region.wanted o (yielded ops a.tmps) = true := by simp [Region.wanted, hg]
  rw [if_pos hw]
  unfold Oper.wp
  simp [execOp, hop, resolve, invoke, builtin, hd, hx, hr, Result.andThen]
  exact hK
end
/-- what lies in a row behind two copies: shifted up, then put -/
theorem ins_cells (cur cx : List Value) (a b s : Nat) (hab : a ≤ b) (hb : b + s ≤ cur.length) (hx : cx.length = s) :
    let cs := (cur.take b).drop a
    let c1 := cur.take (a + s) ++ cs ++ cur.drop (a + s + cs.length)
    let c2 := c1.take a ++ cx ++ c1.drop (a + cx.length)
    c2.take (b + s) = cur.take a ++ cx ++ cs ∧ c2.length = cur.length ∧ c1.length = cur.length ∧ cs.length = b - a := by
  intro cs c1 c2
  have hcs : cs.length = b - a := by simp only [cs, List.length_drop, List.length_take]; omega
  have h1 : c1.length = cur.length := by simp only [c1, List.length_append, List.length_take, List.length_drop, hcs]; omega
  have h2 : c1.take a = cur.take a := by
    simp only [c1, List.append_assoc]
    rw [List.take_append_of_le_length (by rw [List.length_take]; omega), List.take_take]
    congr 1; omega
  have h3 : c1.drop (a + s) = cs ++ cur.drop (a + s + cs.length) := by
    simp only [c1, List.append_assoc]
    rw [List.drop_append_of_le_length (by rw [List.length_take]; omega)]
    rw [show (cur.take (a + s)).drop (a + s) = [] from List.drop_eq_nil_of_le (by rw [List.length_take]; omega), List.nil_append]
  refine ⟨?_, ?_, h1, hcs⟩
  · simp only [c2]
    rw [h2, hx, h3, ← List.append_assoc]
    exact List.take_left' (by simp only [List.length_append, List.length_take, hcs, hx]; omega)
  · simp only [c2, List.length_append, List.length_take, List.length_drop, h1, hx]; omega
/-- what lies in a row behind two copies: put, then what is behind it -/
theorem ins_cells2 (R cx cs : List Value) (a s : Nat) (hb : a + s + cs.length ≤ R.length) (hx : cx.length = s) :
    let r1 := R.take a ++ cx ++ R.drop (a + cx.length)
    let r2 := r1.take (a + s) ++ cs ++ r1.drop (a + s + cs.length)
    r2.take (a + s + cs.length) = R.take a ++ cx ++ cs ∧ r2.length = R.length ∧ r1.length = R.length := by
  intro r1 r2
  have h1 : r1.length = R.length := by simp only [r1, List.length_append, List.length_take, List.length_drop, hx]; omega
  have h2 : r1.take (a + s) = R.take a ++ cx := by
    simp only [r1]
    exact List.take_left' (by simp only [List.length_append, List.length_take, hx]; omega)
  refine ⟨?_, ?_, h1⟩
  · simp only [r2]
    rw [h2]
    exact List.take_left' (by simp only [List.length_append, List.length_take, hx]; omega)
  · simp only [r2, List.length_append, List.length_take, List.length_drop, h1]; omega
theorem flat_take {α β : Type} {E : α → List β} {size : Nat} (hE : ∀ x, (E x).length = size) : ∀ (l : List α) (i : Nat), (l.take i).flatMap E = (l.flatMap E).take (i * size)
  | [], i => by simp
  | a :: l, 0 => by simp
  | a :: l, i + 1 => by
    rw [List.take_succ_cons, List.flatMap_cons, List.flatMap_cons, flat_take hE l i, show (i + 1) * size = (E a).length + i * size by rw [hE, Nat.add_mul]; omega, List.take_length_add_append]
theorem flat_drop {α β : Type} {E : α → List β} {size : Nat} (hE : ∀ x, (E x).length = size) : ∀ (l : List α) (i : Nat), (l.drop i).flatMap E = (l.flatMap E).drop (i * size)
  | [], i => by simp
  | a :: l, 0 => by simp
  | a :: l, i + 1 => by
    rw [List.drop_succ_cons, List.flatMap_cons, flat_drop hE l i, show (i + 1) * size = (E a).length + i * size by rw [hE, Nat.add_mul]; omega, List.drop_length_add_append]
theorem own_wide {w : World} {base base' : Nat} {e : TypeId} {size n : Nat} {v : Value} {xs : List Value} (h : w.ownsRow base e size v n xs) (hb : base' ≤ base) : w.ownsRow base' e size v n xs := by
  refine ⟨h.1, ?_⟩
  rcases h.2 with h0 | ⟨g, cap, cur, hv, hg, h1⟩
  · exact .inl h0
  · exact .inr ⟨g, cap, cur, hv, Nat.le_trans hb hg, h1⟩
theorem SlV_of_any {w : World} {base : Nat} {e : TypeId} {size n : Nat} {v : Value} {xs : List Value} (h : w.ownsRow base e size v n xs) : ∃ A c, v = .slice A n c ∧ n ≤ c ∧ c ≤ maxLen ∧ True := by
  rcases h.2 with ⟨rfl, rfl⟩ | ⟨g, cap, cur, rfl, _, _, h1, h2, _⟩
  · exact ⟨none, 0, rfl, Nat.le_refl _, by simp [maxLen], trivial⟩
  · exact ⟨_, cap, rfl, h1, h2, trivial⟩
/-- cells of an own row are stored -/
theorem own_setCells {base : Nat} {e : TypeId} {size n g cap : Nat} : ∀ (us : List Value) (o : Nat) (w : World) (xs : List Value), w.ownsRow base e size (.slice (some ⟨g, 0, none⟩) n cap) n xs → o + us.length ≤ n * size →
    (w.setCells g o us).ownsRow base e size (.slice (some ⟨g, 0, none⟩) n cap) n (xs.take o ++ us ++ xs.drop (o + us.length))
  | [], o, w, xs, h, _ => by
    rw [World.setCells, List.append_nil, List.length_nil, Nat.add_zero, List.take_append_drop]
    exact h
  | u :: us, o, w, xs, h, hl => by
    rw [List.length_cons] at hl
    have h1 := own_setCells us (o + 1) (w.setCell ⟨g, o, none⟩ u) (xs.set o u) (h.stored o u).1 (by omega)
    rw [World.setCells]
    have e1 : xs.take o ++ u :: us ++ xs.drop (o + (u :: us).length) = (xs.set o u).take (o + 1) ++ us ++ (xs.set o u).drop (o + 1 + us.length) := by
      have hx := h.1
      have := list_seg_step xs o u us (by omega)
      rw [this, List.length_cons]
    rw [e1]
    exact h1
theorem grown_setCells {a : World} {g : Nat} : ∀ (us : List Value) (o : Nat) (w : World), a.grownBy w (some g) → a.grownBy (w.setCells g o us) (some g)
  | [], _, _, h => h
  | u :: us, o, w, h => by rw [World.setCells]; exact grown_setCells us (o + 1) _ (grown_put h o u)
theorem flat_put {α β : Type} {E : α → List β} {size : Nat} (hE : ∀ x, (E x).length = size) (l : List α) (i : Nat) (h : i < l.length) (x : α) (o : Nat) (us : List β) (ho : o + us.length ≤ size) (hx : E x = (E l[i]).take o ++ us ++ (E l[i]).drop (o + us.length)) :
    (l.flatMap E).take (i * size + o) ++ us ++ (l.flatMap E).drop (i * size + o + us.length) = (l.set i x).flatMap E := by
  have hl : l = l.take i ++ l[i] :: l.drop (i + 1) := by rw [← List.drop_eq_getElem_cons h, List.take_append_drop]
  have hP : ((l.take i).flatMap E).length = i * size := by rw [flat_len hE, List.length_take, Nat.min_eq_left (Nat.le_of_lt h)]
  have hF : l.flatMap E = (l.take i).flatMap E ++ (E l[i] ++ (l.drop (i + 1)).flatMap E) := by
    conv => lhs; rw [hl]
    rw [List.flatMap_append, List.flatMap_cons]
  rw [hF, List.set_eq_take_append_cons_drop, if_pos h, List.flatMap_append, List.flatMap_cons, hx]
  rw [← hP, List.take_length_add_append, Nat.add_assoc, List.drop_length_add_append, List.take_append_of_le_length (by rw [hE]; omega), List.drop_append_of_le_length (by rw [hE]; omega)]
  simp only [List.append_assoc]
/-- a step that turns a block which lies behind what a has -/
theorem grown_sub {a w w' : World} {row row' : Option Nat} (h : a.grownBy w row) (k : w.grownBy w' row') (hr : ∀ g, row' = some g → a.heap.size ≤ g) : a.grownBy w' row :=
  ⟨k.os.trans h.os, k.tape.trans h.tape, k.output.trans h.output, Nat.le_trans h.size k.size, fun i hi hn => (k.block i (Nat.lt_of_lt_of_le hi h.size) (fun e => by have := hr i e.symm; omega)).trans (h.block i hi hn)⟩
/-- an element is read out of a slice -/
theorem SlOf.range {w : World} {size : Nat} {α : Type} {E : α → List Value} {b off : Nat} {l : List α} (h : SlOf w size E (some ⟨b, off, none⟩) l) (hE : ∀ x, (E x).length = size) (i : Nat) (hi : i < l.length) : w.rangeAt b (off + i * size) (E l[i]) := by
  obtain ⟨b', off', hA, _, hc⟩ := h (by omega)
  have hA' : (⟨b, off, none⟩ : Addr) = ⟨b', off', none⟩ := Option.some.inj hA
  have hb : b = b' := congrArg Addr.block hA'
  have ho : off = off' := congrArg Addr.off hA'
  subst hb
  subst ho
  intro j v hj
  have hjl : j < size := by rw [← hE l[i]]; exact (List.getElem?_eq_some_iff.1 hj).1
  rw [hc i hi j hjl, hj]
/-- what is in the first cells of a row that the call owns -/
theorem own_form {w : World} {base : Nat} {e : TypeId} {size n : Nat} {v : Value} {xs : List Value} (h : w.ownsRow base e size v n xs) (hn : 0 < n) :
    ∃ g cap cur, v = .slice (some ⟨g, 0, none⟩) n cap ∧ base ≤ g ∧ Blk w g e cur ∧ n ≤ cap ∧ cap ≤ maxLen ∧ cur.size = cap * size ∧ cur.toList.take (n * size) = xs := by
  rcases h.2 with ⟨_, h0⟩ | ⟨g, cap, cur, hv, hb, hg, h1, h2, h3, h4⟩
  · omega
  · exact ⟨g, cap, cur, hv, hb, hg, h1, h2, h3, h4⟩
theorem own_mk {w : World} {base : Nat} {e : TypeId} {size n g cap : Nat} {cur : Array Value} {xs : List Value} (hb : base ≤ g) (hg : Blk w g e cur) (h1 : n ≤ cap) (h2 : cap ≤ maxLen) (h3 : cur.size = cap * size) (h4 : cur.toList.take (n * size) = xs) :
    w.ownsRow base e size (.slice (some ⟨g, 0, none⟩) n cap) n xs := by
  refine ⟨?_, .inr ⟨g, cap, cur, rfl, hb, hg, h1, h2, h3, h4⟩⟩
  rw [← h4, List.length_take, Array.length_toList, h3]
  have : n * size ≤ cap * size := Nat.mul_le_mul_right _ h1
  omega
/-- a row behind i exchanges from its ends inward -/
def rvL {α : Type} (i : Nat) (l : List α) : List α := l.mapIdx fun m x => if m < i ∨ l.length - 1 - i < m then (l[l.length - 1 - m]?).getD x else x
theorem rvL_len {α : Type} (i : Nat) (l : List α) : (rvL i l).length = l.length := by simp [rvL]
theorem rvL_get {α : Type} (i : Nat) (l : List α) (m : Nat) (h : m < l.length) : (rvL i l)[m]'(by rw [rvL_len]; exact h) = if m < i ∨ l.length - 1 - i < m then l[l.length - 1 - m]'(by omega) else l[m] := by
  simp only [rvL, List.getElem_mapIdx]
  split
  · rw [List.getElem?_eq_getElem (by omega)]; rfl
  · rfl
theorem rvL_zero {α : Type} (l : List α) : rvL 0 l = l := by
  apply List.ext_getElem
  · exact rvL_len 0 l
  · intro m h1 h2
    rw [rvL_get 0 l m h2, if_neg (by omega)]
theorem rvL_end {α : Type} (i : Nat) (l : List α) (h : l.length ≤ 2 * i + 1) : rvL i l = l.reverse := by
  apply List.ext_getElem
  · rw [rvL_len, List.length_reverse]
  · intro m h1 h2
    have h3 : m < l.length := by simpa using h2
    rw [rvL_get i l m h3, List.getElem_reverse]
    split
    · rfl
    · have : l.length - 1 - m = m := by omega
      simp only [this]
theorem rvL_step {α : Type} (i : Nat) (l : List α) (h : i < l.length - 1 - i) : rvL (i + 1) l = ((rvL i l).set i ((rvL i l)[l.length - 1 - i]'(by rw [rvL_len]; omega))).set (l.length - 1 - i) ((rvL i l)[i]'(by rw [rvL_len]; omega)) := by
  apply List.ext_getElem
  · simp [rvL_len]
  · intro m h1 h2
    have h3 : m < l.length := by rw [rvL_len] at h1; exact h1
    rw [rvL_get (i + 1) l m h3, List.getElem_set, List.getElem_set]
    simp only [rvL_get i l _ (show l.length - 1 - i < l.length by omega), rvL_get i l i (by omega), rvL_get i l m h3]
    by_cases e1 : l.length - 1 - i = m
    · subst e1
      rw [if_pos rfl, if_pos (by omega), if_neg (by omega)]
      have : l.length - 1 - (l.length - 1 - i) = i := by omega
      simp only [this]
    · rw [if_neg e1]
      by_cases e2 : i = m
      · subst e2
        rw [if_pos rfl, if_pos (by omega), if_neg (by omega)]
      · rw [if_neg e2]
        by_cases e3 : m < i ∨ l.length - 1 - i < m
        · rw [if_pos e3, if_pos (by omega)]
        · rw [if_neg e3, if_neg (by omega)]
end Sw
/- slices.Clone of a row of sorted.entry[string,swingle/api.Node]: the same elements, in memory of the call's own. -/
set_option linter.unusedVariables false
set_option linter.unusedSimpArgs false
namespace Go.Proofs.YtmpgmgjokliceaaGreatDoor
open Go Go.RowKit
open Sw
theorem infoESN : (Tryz.prog.info? 197).map (fun i => (i.zero, i.size, i.bytes)) = some (some (.agg #[.string ⟨#[]⟩, .int .i64 0, .int .i64 0, .int .u32 0, .string ⟨#[]⟩]), 5, 56) := by kernel_rfl
set_option maxRecDepth 100000 in
set_option maxHeartbeats 2000000 in
theorem slCloneSN_any {α : Type} (E : α → List Value) (hE : ∀ x, (E x).length = 5) (hE1 : ∀ x, ∀ u ∈ E x, u.oneCell' = true) (w : World) (v : Value) (l : List α) (h : SlV w 5 E v l) (hl : l.length ≤ 1000000) :
    Calls Tryz.prog 144 #[v] w fun e w' => ∃ v', e = .returned v' ∧ w'.ownsRow w.heap.size 197 5 v' l.length (l.flatMap E) ∧ Below w.heap.size w w' := by
  obtain ⟨A, c, rfl, hc1, hc2, hsl⟩ := h
  cases A with
  | none =>
    have h0 : l = [] := by
      cases l with
      | nil => rfl
      | cons a l => obtain ⟨b, off, h, _⟩ := hsl (by simp); cases h
    subst h0
    have hno := World.ownsRow_nil w w.heap.size 197 5
    have HN := Lib.hid hno; clear hno hsl
    have hnl : ∀ W n c, (binOp .eql 188 (.slice none n c) (.slice none 0 0)).run Tryz.prog W = .ok (.bool true) W := fun W n c => Lib.run_eql_slice_nil W 188 197 none n c 0 0 Tryz.underlying188
    go_enter Tryz.func144, Tryz.ntmps144
    go_wp2_with fail
    go_ret
    exact ⟨_, rfl, HN.out, Below.refl _ _⟩
  | some a =>
    obtain ⟨i0, hi, hz0, hz1, hz2⟩ := info_parts infoESN
    have hlen : (l.flatMap E).length = l.length * 5 := flat_len hE l
    have hone : ∀ u ∈ l.flatMap E, u.oneCell' = true := fun u hu => by
      rw [List.mem_flatMap] at hu
      obtain ⟨x, _, hx⟩ := hu
      exact hE1 x u hx
    have hnews : ∀ j u, (l.flatMap E)[j]? = some u → w.cell? (a.add j) = some u := fun j u hj => by
      have hjl := (List.getElem?_eq_some_iff.1 hj).1
      rw [hlen] at hjl
      obtain ⟨b, off, hA, _, hcs⟩ := hsl (by omega)
      rw [Option.some.inj hA, add_mk]
      have hq : j / 5 < l.length := by omega
      have hr : j % 5 < 5 := Nat.mod_lt _ (by omega)
      have hd : j / 5 * 5 + j % 5 = j := by omega
      have h1 := flat_get hE l (j / 5) hq (j % 5) hr
      rw [hd, hj] at h1
      have h2 := hcs (j / 5) hq (j % 5) hr
      rw [Nat.add_assoc, hd] at h2
      rw [h2, ← h1]
    have hnews1 : ∀ (o : Obj) j u, (l.flatMap E)[j]? = some u → (w.alloc o).cell? (a.add j) = some u := fun o j u hj => by
      have h1 := hnews j u hj
      have hlt := World.block_lt_of_cell? w _ h1
      rw [← h1]
      exact ((Below.refl w.heap.size w).alloc (Nat.le_refl _) o).cell hlt
    have hown := World.ownsRow_made (e := 197) (size := 5) (base := w.heap.size) w #[] 0 (Nat.le_refl _) (by decide) (by simp)
    have hbe : Below w.heap.size w (w.alloc (.cells #[] 197)) := (Below.refl _ _).alloc (Nat.le_refl _) _
    have HH := Lib.hid (And.intro hown hbe); clear hown hbe
    have HL := Lib.hid hlen; clear hlen
    have HO := Lib.hid hone; clear hone
    have HW := Lib.hid hnews1; clear hnews1 hnews
    have HI := Lib.hid (And.intro hi (And.intro hz0 (And.intro hz1 hz2))); clear hi hz0 hz1 hz2
    generalize l.flatMap E = xs at *
    generalize l.length = n at *
    have hnl : ∀ W n c, (binOp .eql 188 (.slice (some a) n c) (.slice none 0 0)).run Tryz.prog W = .ok (.bool false) W := fun W n c => Lib.run_eql_slice_nil W 188 197 (some a) n c 0 0 Tryz.underlying188
    go_enter Tryz.func144, Tryz.ntmps144
    go_wp2_with (at_builtin; refine wpList_append_own _ rfl _ _ 188 rfl w.heap.size 197 i0 (.agg #[.string ⟨#[]⟩, .int .i64 0, .int .i64 0, .int .u32 0, .string ⟨#[]⟩]) 5 56 Tryz.underlying188 HI.out.1 HI.out.2.1 HI.out.2.2.1 HI.out.2.2.2 rfl (by decide) _ _ _ rfl HH.out.1 a n c xs rfl HL.out (HW.out _) HO.out (by unfold maxLen; omega) (by omega) (by simp) ?_; intro v' w1 hown1 hgrow1 hnil1)
    have HP := Lib.hid (And.intro hown1 hgrow1); clear hown1 hgrow1 hnil1
    go_wp2_with fail
    go_ret
    refine ⟨_, rfl, ?_, HH.out.2.grown HP.out.2 (by simp) (fun k hk => ?_)⟩
    · have := HP.out.1
      simpa using this
    · have : w.heap.size = k := Option.some.inj hk
      omega
end Go.Proofs.YtmpgmgjokliceaaGreatDoor
/- slices.BinarySearchFunc over a row of sorted.entry[string,swingle/api.Node], as sorted.Map's find calls it. -/
set_option linter.unusedVariables false
set_option linter.unusedSimpArgs false
namespace Go.Proofs.YtmpgmgjokliceaaGreatDoor
open Go Go.RowKit
open Sw
def SrchPostSN {α : Type} (f : α → Int) (l : List α) (w : World) (e : Ending) (w' : World) : Prop :=
  ∃ i : Nat, i ≤ l.length ∧ (∀ m (h : m < l.length), m < i → f l[m] < 0) ∧ (∀ m (h : m < l.length), i ≤ m → 0 ≤ f l[m]) ∧
    e = .returned (.tuple #[.int .i64 i, .bool (if h : i < l.length then decide (f l[i] = 0) else false)]) ∧ Below w.heap.size w w'
set_option maxRecDepth 100000 in
set_option maxHeartbeats 4000000 in
theorem slSearchSN_any {α : Type} (E : α → List Value) (hE : ∀ x, (E x).length = 5) (f : α → Int) (w : World) (A : Option Addr) (n c g : Nat) (l : List α) (kv : Value) (hl : l.length = n) (hn : n ≤ 1000000) (hsl : SlOf w 5 E A l)
    (hmono : ∀ a b (ha : a < l.length) (hb : b < l.length), a ≤ b → f l[b] < 0 → f l[a] < 0)
    (hcall : ∀ W x, x ∈ l → Below w.heap.size w W → Calls Tryz.prog 191 #[.agg (E x).toArray, kv, .pointer (some ⟨g, 0, none⟩)] W fun e w' => e = .returned (.int .i64 (f x)) ∧ Below W.heap.size W w') :
    Calls Tryz.prog 190 #[.slice A n c, kv, .func (.func 191) #[] #[.pointer (some ⟨g, 0, none⟩)]] w (SrchPostSN f l w) := by
  have HS := Lib.hid hsl; clear hsl
  have HL := Lib.hid hl; clear hl
  have HM := Lib.hid hmono; clear hmono
  have HC := Lib.hid hcall; clear hcall
  have HE := Lib.hid hE; clear hE
  go_enter Tryz.func190, Tryz.ntmps190
  go_wp2_with fail
  go_loopw [9, 10] (fun iv jv wr => ∃ i j : Nat, i ≤ j ∧ j ≤ n ∧ iv = .int .i64 i ∧ jv = .int .i64 j ∧ (∀ m (h : m < l.length), m < i → f l[m] < 0) ∧ (∀ m (h : m < l.length), j ≤ m → 0 ≤ f l[m]) ∧ Below w.heap.size w wr) (fun iv jv _ => (intOf jv - intOf iv).toNat)
  case atStart => exact ⟨0, n, Nat.zero_le _, Nat.le_refl _, rfl, rfl, fun m h h' => by omega, fun m h h' => by have := HL.out; omega, Below.refl _ _⟩
  case round =>
    obtain ⟨i, j, hij, hjn, rfl, rfl, hlo, hhi, hbr⟩ := hrel
    have HLO := Lib.hid hlo; clear hlo
    have HHI := Lib.hid hhi; clear hhi
    by_cases hlt : i < j
    · have hjL : j ≤ l.length := by have := HL.out; omega
      obtain ⟨h, hh⟩ : ∃ h : Nat, ((i : Int) + j) / 2 = h := ⟨(i + j) / 2, by omega⟩
      have hih : i ≤ h := by omega
      have hhj : h < j := by omega
      have hhL : h < l.length := by omega
      obtain ⟨b, off, rfl, hbb, _⟩ := (HS.out.below hbr (Nat.le_refl _)) (by omega)
      have HR := Lib.hid ((HS.out.below hbr (Nat.le_refl _)).range HE.out h hhL)
      have HF := Lib.hid (HC.out wr l[h] (List.getElem_mem hhL) hbr)
      have HX := Lib.hid (HE.out l[h])
      have HLO2 := Lib.hid (fun (hf : f l[h] < 0) m (hm : m < l.length) (hmh : m < h + 1) => (HM.out m h hm hhL (by omega) hf : f l[m] < 0))
      have HHI2 := Lib.hid (fun (hf : ¬ f l[h] < 0) m (hm : m < l.length) (hmh : h ≤ m) => (by
        refine Int.not_lt.1 fun hx => hf ?_
        exact HM.out h m hhL hm hmh hx : 0 ≤ f l[m]))
      generalize f l[h] = fv at *
      generalize E l[h] = ev at *
      have q1 : (i : Int) + j ≤ 2000000 := by omega
      have q2 : (h : Int) < n := by omega
      go_wp2_with (refine wpList_load_mid rfl 197 (.tmp 27) rfl b (off + h * 5) rfl ev _ HR.out Tryz.underlying197 rfl (by rw [HX.out]; kernel_rfl) ?_)
      refine HF.out.mono ?_
      rintro e w2 ⟨rfl, hb2⟩
      have hb3 := hbr.trans (hb2.mono hbr.size)
      clear HR HF
      by_cases hf : fv < 0
      · have H1 := Lib.hid (HLO2.out hf)
        go_wp2_with fail
        go_roundw
        case rel => exact ⟨h + 1, j, by omega, hjn, by go_num, rfl, H1.out, HHI.out, hb3⟩
        case measure => simp [intOf]; omega
      · have H1 := Lib.hid (HHI2.out (by omega))
        go_wp2_with fail
        go_roundw
        case rel => exact ⟨i, h, hih, by omega, rfl, by go_num, HLO.out, H1.out, hb3⟩
        case measure => simp [intOf]; omega
    · obtain rfl : i = j := by omega
      clear hij hlt
      by_cases hin : i < n
      · have hiL : i < l.length := by have := HL.out; omega
        obtain ⟨b, off, rfl, hbb, _⟩ := (HS.out.below hbr (Nat.le_refl _)) (by omega)
        have HR := Lib.hid ((HS.out.below hbr (Nat.le_refl _)).range HE.out i hiL)
        have HF := Lib.hid (HC.out wr l[i] (List.getElem_mem hiL) hbr)
        have HX := Lib.hid (HE.out l[i])
        have HP := Lib.hid (fun w' (hb : Below w.heap.size w w') => (⟨i, by omega, HLO.out, HHI.out, by rw [dif_pos hiL], hb⟩ : SrchPostSN f l w (.returned (.tuple #[.int .i64 i, .bool (decide (f l[i] = 0))])) w'))
        generalize f l[i] = fv at *
        generalize E l[i] = ev at *
        have q2 : (i : Int) < n := by omega
        go_wp2_with (refine wpList_load_row_g rfl 197 (.tmp 43) rfl b (off + i * 5) rfl ev _ HR.out Tryz.underlying197 rfl (by rw [HX.out]; kernel_rfl) ?_)
        refine HF.out.mono ?_
        rintro e w2 ⟨rfl, hb2⟩
        have hb3 := hbr.trans (hb2.mono hbr.size)
        have HQ := Lib.hid (HP.out w2 hb3)
        have hbq : (fv == 0) = decide (fv = 0) := rfl
        go_wp2_with fail
        go_ret2
        exact HQ.out
      · obtain rfl : i = n := by omega
        have HP := Lib.hid (fun w' (hb : Below w.heap.size w w') => (⟨i, by have := HL.out; omega, HLO.out, HHI.out, by rw [dif_neg (by have := HL.out; omega)], hb⟩ : SrchPostSN f l w (.returned (.tuple #[.int .i64 i, .bool false])) w'))
        go_wp2_with fail
        go_ret2
        exact HP.out _ hbr
end Go.Proofs.YtmpgmgjokliceaaGreatDoor
/- sorted.Map[string,swingle/api.Node]: what a map holds; find. -/
set_option linter.unusedVariables false
set_option linter.unusedSimpArgs false
namespace Go.Proofs.YtmpgmgjokliceaaGreatDoor
open Go Go.RowKit
open Sw
/-- an entry's cells -/
def eCSN (e : ByteArray × Nd) : List Value := [.string e.1, .int .i64 e.2.kind, .int .i64 e.2.mode, .int .u32 e.2.time, .string e.2.data]
theorem eCSN_len (e : ByteArray × Nd) : (eCSN e).length = 5 := rfl
theorem eCSN_one (e : ByteArray × Nd) : ∀ u ∈ eCSN e, u.oneCell' = true := by
  intro u hu
  simp only [eCSN, List.mem_cons, List.mem_append, List.not_mem_nil, or_false] at hu
  rcases hu with rfl | rfl | rfl | rfl | rfl <;> rfl
abbrev ordFSN : Value := .func (.func 79) #[] #[]
/-- the map in block bm holds the entries xs -/
structure SMapSN (w : World) (bm : Nat) (xs : List (ByteArray × Nd)) : Prop where
  row : ∃ v, Blk w bm 190 #[ordFSN, v] ∧ w.ownsRow 0 197 5 v xs.length (xs.flatMap eCSN)
  up : Up ordS xs
  ok : ∀ e ∈ xs, okS e.1
set_option maxRecDepth 100000 in
set_option maxHeartbeats 2000000 in
theorem find1SN_any (w : World) (g bm : Nat) (e : ByteArray × Nd) (k : ByteArray) (he : okS e.1) (hk : okS k) (hg : w.cell? ⟨g, 0, none⟩ = some (.pointer (some ⟨bm, 0, none⟩))) (hm : w.cell? ⟨bm, 0, none⟩ = some ordFSN) :
    Calls Tryz.prog 191 #[.agg (eCSN e).toArray, Value.string k, .pointer (some ⟨g, 0, none⟩)] w fun r w' => r = .returned (.int .i64 (ordS e.1 k)) ∧ Below w.heap.size w w' := by
  have HO := Lib.hid (fun W => orderS_any W e.1 k he hk)
  have hB := Blk.new w 197 (eCSN e).toArray
  have hb1 := (Below.refl w.heap.size w).alloc (Nat.le_refl _) (.cells (eCSN e).toArray 197)
  have hgl := World.block_lt_of_cell? w _ hg
  have hml := World.block_lt_of_cell? w _ hm
  have hg1 := (hb1.cell (p := ⟨g, 0, none⟩) hgl).trans hg
  have hm1 := (hb1.cell (p := ⟨bm, 0, none⟩) hml).trans hm
  have hlt := hB.lt
  have hk0 : (w.alloc (.cells (eCSN e).toArray 197)).cell? ⟨w.heap.size, 0, none⟩ = some (Value.string e.1) := hB.cell 0
  clear hg hm hB
  generalize ordS e.1 k = r at *
  have l1 : ∀ m : Held (Aft (w.alloc (.cells (eCSN e).toArray 197))), (HeldW m).cell? ⟨g, 0, none⟩ = some (.pointer (some ⟨bm, 0, none⟩)) := fun m => (Aft.cell m (p := ⟨g, 0, none⟩) (Nat.lt_of_lt_of_le hgl hb1.size)).trans hg1
  have l2 : ∀ m : Held (Aft (w.alloc (.cells (eCSN e).toArray 197))), (HeldW m).cell? ⟨bm, 0, none⟩ = some ordFSN := fun m => (Aft.cell m (p := ⟨bm, 0, none⟩) (Nat.lt_of_lt_of_le hml hb1.size)).trans hm1
  have l3 : ∀ m : Held (Aft (w.alloc (.cells (eCSN e).toArray 197))), (HeldW m).cell? ⟨w.heap.size, 0, none⟩ = some (Value.string e.1) := fun m => (Aft.cell m (p := ⟨w.heap.size, 0, none⟩) hlt).trans hk0
  have HB1 := Lib.hid hb1; clear hb1 hg1 hm1 hk0
  haveI := Aft.some (w.alloc (.cells (eCSN e).toArray 197))
  generalize (eCSN e).toArray = ec at *
  go_enter Tryz.func191, Tryz.ntmps191
  go_wp2_with fail
  refine wp_region_class (Aft (w.alloc (.cells ec 197))) (by kernel_rfl) (by kernel_rfl) (Aft.start _) ?_
  repeat (go_big_quiet_step (with_reducible exact held_below Aft.keep (HO.out _)))
  refine wpQuiet_nil ?_
  rintro _ ⟨nn, rfl⟩
  have HW : Hid (Below (w.alloc (.cells ec 197)).heap.size (w.alloc (.cells ec 197)) (HeldW nn)) := Lib.hid (HeldW_spec nn)
  go_wp2_with fail
  go_ret
  exact ⟨rfl, HB1.out.trans (HW.out.mono HB1.out.size)⟩
end Go.Proofs.YtmpgmgjokliceaaGreatDoor
