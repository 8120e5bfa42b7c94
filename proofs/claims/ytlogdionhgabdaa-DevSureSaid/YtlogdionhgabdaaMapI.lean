/- Maps from numbers: which value lies at which number. Over any program. -/
import Derived.Test.YtlogdionhgabdaaGrow
import Derived.Test.YtlogdionhgabdaaRowOps
import Derived.Maps.OwnSet
import Derived.Maps.RangeWalk
set_option linter.unusedVariables false
set_option linter.unusedSimpArgs false
namespace Sw
open Go Go.RowKit
open Go.Maps (Keyed int_keyed keyOf_int_mk)
open Go.WideElems (rd rg rd_key rg_of rd_val)
/-- a value that is read as itself -/
def asIs (v : Value) : Option (DataW Value × List MemPlace) := some (.held v, [])
def I64 (i : Int) : Prop := (Lit.int .i64 i).wf = true
theorem I64.mk {i : Int} (h0 : -9223372036854775808 ≤ i) (h1 : i ≤ 9223372036854775807) : I64 i := by
  unfold I64 Lit.wf
  simp [IntKind.min, IntKind.max, IntKind.signed, IntKind.bits]
  omega
def lk (f : Int → Option Value) (i : Int) (z : DataW Value) : DataW Value := match f i with | some v => .held v | none => z
/-- block b is a map of at most n entries, at each number i it has f i -/
def MapI (w : World) (P : Program) (k : TypeId) (b n : Nat) (f : Int → Option Value) : Prop :=
  ∃ D : DataW Value, w.ownsMap P k asIs b n D ∧ ∀ i, I64 i → ∀ z, D.atKey (.int .i64 i) z = lk f i z
def updI (f : Int → Option Value) (i : Int) (v : Value) : Int → Option Value := fun j => if j = i then some v else f j
section
variable {P : Program} {k : TypeId} {w w' : World} {b n : Nat} {f : Int → Option Value}
theorem MapI.lt (h : MapI w P k b n f) : b < w.heap.size := by obtain ⟨D, h1, _⟩ := h; exact h1.lt
theorem MapI.kept {row : Option Nat} (h : MapI w P k b n f) (hg : w.grownBy w' row) (hne : some b ≠ row) : MapI w' P k b n f := by
  obtain ⟨D, h1, h2⟩ := h
  exact ⟨D, h1.kept hg hne, h2⟩
theorem MapI.same (h : MapI w P k b n f) (hb : w'.heap[b]? = w.heap[b]?) : MapI w' P k b n f := by
  obtain ⟨D, ⟨es, clock, h0, h1, h2, h3⟩, h4⟩ := h
  exact ⟨D, ⟨es, clock, hb.trans h0, h1, h2, h3⟩, h4⟩
theorem MapI.below {B : Nat} (h : MapI w P k b n f) (hb : Below B w w') (hB : b < B) : MapI w' P k b n f := h.same (hb.block b hB)
theorem MapI.alloc (h : MapI w P k b n f) (o : Obj) : MapI (w.alloc o) P k b n f := h.kept (World.grownBy_alloc w o none) (by simp)
theorem MapI.drew (h : MapI w P k b n f) : MapI w.drew P k b n f := h.same rfl
theorem MapI.congr (h : MapI w P k b n f) {g : Int → Option Value} (e : ∀ i, I64 i → g i = f i) : MapI w P k b n g := by
  obtain ⟨D, h1, h2⟩ := h
  exact ⟨D, h1, fun i hi z => by rw [h2 i hi z]; unfold lk; rw [e i hi]⟩
theorem MapI.made (w : World) (P : Program) (k : TypeId) : MapI (w.alloc (.map #[] 0)) P k w.heap.size 0 (fun _ => none) :=
  ⟨.map [], World.ownsMap_made w P k asIs, fun i _ z => rfl⟩
theorem MapI.mono (h : MapI w P k b n f) {m : Nat} (hm : n ≤ m) : MapI w P k b m f := by
  obtain ⟨D, h1, h2⟩ := h
  exact ⟨D, h1.mono hm, h2⟩
theorem nodup_lt : ∀ (m : Nat) (l : List Nat), l.Pairwise (· ≠ ·) → (∀ x ∈ l, x < m) → l.length ≤ m
  | 0, l, _, h => by
    cases l with
    | nil => simp
    | cons x l => have := h x (by simp); omega
  | m + 1, l, hp, h => by
    have h1 := nodup_lt m (l.filter (· ≠ m)) (hp.filter _) (fun x hx => by
      obtain ⟨hx1, hx2⟩ := List.mem_filter.1 hx
      have := h x hx1
      simp at hx2
      omega)
    have h2 : ∀ l : List Nat, l.Pairwise (· ≠ ·) → l.length ≤ (l.filter (· ≠ m)).length + 1 := by
      intro l
      induction l with
      | nil => simp
      | cons x l ih =>
        intro hp
        obtain ⟨hp1, hp2⟩ := List.pairwise_cons.1 hp
        by_cases hx : x = m
        · have hno : l.filter (· ≠ m) = l := List.filter_eq_self.2 (fun y hy => by have := hp1 y hy; simp; omega)
          rw [List.filter_cons, hno]
          simp [hx]
        · rw [List.filter_cons]
          have := ih hp2
          simp [hx]
          simpa using this
    have := h2 l hp
    omega
/-- of a map with no other numbers than those below m -/
theorem MapI.tight (h : MapI w P k b n f) (hk : P.underlying k = some (.int .i64)) {m : Nat} (hm : ∀ i, I64 i → (f i).isSome = true → 0 ≤ i ∧ i < m) : MapI w P k b m f := by
  obtain ⟨D, hown, h2⟩ := h
  have K := int_keyed (P := P) (k := k) hk
  obtain ⟨es0, rfl, hp, _⟩ := hown.entries K
  obtain ⟨es, clock, h0, F, hs, hD⟩ := id hown
  have hD' : es0 = (es.toList.map (rg P k asIs)).foldr DataW.insert [] := by injection hD
  have hlen : es0.length = es.size := by rw [hD', length_sorted]; simp
  have hall : ∀ p ∈ es0, ∃ x : Int, p.1 = .int .i64 x ∧ I64 x ∧ 0 ≤ x ∧ x < m := by
    intro p hpm
    have hpm' := hpm
    rw [hD'] at hpm'
    obtain ⟨x, hx, rfl⟩ := List.mem_map.1 (mem_sorted.1 hpm')
    obtain ⟨y, hy⟩ := F.reads x hx
    have hky := rd_key hy
    obtain ⟨i, _, he, hw⟩ := Maps.keyOf_int_inv hk hky
    have he' : (rg P k asIs x).1 = .int .i64 i := by rw [rg_of hy]; exact he
    refine ⟨i, he', hw, hm i hw ?_⟩
    have h3 := h2 i hw .nil
    obtain ⟨z, hz, hzd⟩ := rd_val hy
    have h4 : (DataW.map es0).atKey (.int .i64 i) .nil = (rg P k asIs x).2 := by
      have hrise := Maps.fit_rising K F
      rw [hD']
      exact (WideShapes.atKey_sorted (es.toList.map (rg P k asIs)) hrise (.int .i64 i) (by rw [← he]; exact K.key hky)).2 (rg P k asIs x) (List.mem_map.2 ⟨x, hx, rfl⟩) he' .nil
    rw [h4, rg_of hy, hzd] at h3
    unfold lk at h3
    cases hf : f i with
    | some v => rfl
    | none =>
      rw [hf] at h3
      unfold asIs at hz
      cases hz
      cases h3
  have hle : es0.length ≤ m := by
    have := nodup_lt m (es0.map fun p => match p.1 with | .int _ x => x.toNat | _ => 0) (by
      rw [List.pairwise_map]
      refine (List.Pairwise.imp_of_mem ?_ hp)
      intro p q hpm hqm hne he
      obtain ⟨x, hx, _, hx0, _⟩ := hall p hpm
      obtain ⟨y, hy, _, hy0, _⟩ := hall q hqm
      rw [hx, hy] at he
      simp only at he
      have : x = y := by omega
      subst this
      exact hne (hx.trans hy.symm)) (fun x hx => by
      obtain ⟨p, hpm, rfl⟩ := List.mem_map.1 hx
      obtain ⟨x, hx, _, hx0, hx1⟩ := hall p hpm
      rw [hx]
      simp only
      omega)
    simpa using this
  exact ⟨_, ⟨es, clock, h0, F, by omega, hD⟩, h2⟩
section
variable {t e : TypeId} (hk : P.underlying k = some (.int .i64)) (ht : P.underlying t = some (.map k e)) {z : Value}
include hk ht
theorem MapI.look (h : MapI w P k b n f) (hz : (zeroValue e).run P w = .ok z w) {i : Int} (hi : I64 i) : (Instr.lookup t (.map (some b)) (.int .i64 i) false).run P w = .ok ((f i).getD z) w := by
  obtain ⟨D, h1, h2⟩ := h
  obtain ⟨v, ps, hr, hv⟩ := h1.lookup (int_keyed hk) ht hz (zd := .held z) (zp := []) rfl (keyOf_int_mk hk hi)
  rw [h2 i hi] at hv
  rw [hr]
  unfold asIs lk at hv
  cases hf : f i with
  | none => rw [hf] at hv; simp at hv; simp [hv]
  | some u => rw [hf] at hv; simp at hv; simp [hv]
theorem MapI.look_ok (h : MapI w P k b n f) (hz : (zeroValue e).run P w = .ok z w) {i : Int} (hi : I64 i) : (Instr.lookup t (.map (some b)) (.int .i64 i) true).run P w = .ok (.tuple #[(f i).getD z, .bool (f i).isSome]) w := by
  obtain ⟨D, h1, h2⟩ := h
  obtain ⟨v, ps, hr, hv⟩ := h1.look_ok (int_keyed hk) ht hz (zd := .held z) (zp := []) rfl (keyOf_int_mk hk hi)
  have h3 := h2 i hi
  rw [h3 (.held z)] at hv
  rw [hr]
  unfold asIs lk at hv
  unfold lk at h3
  cases hf : f i with
  | none =>
    rw [hf] at hv h3
    rw [Maps.has_false_of_atKey h3]
    simp at hv
    simp [hv]
  | some u =>
    rw [hf] at hv h3
    rw [Maps.has_true_of_atKey h3]
    simp at hv
    simp [hv]
theorem MapI.store (h : MapI w P k b n f) (hn : n < maxLen) {i : Int} (hi : I64 i) (v : Value) :
    ∃ w', (Instr.mapUpdate t (.map (some b)) (.int .i64 i) v).run P w = .ok () w' ∧ MapI w' P k b (n + 1) (updI f i v) ∧ w.grownBy w' (some b) := by
  obtain ⟨D, h1, h2⟩ := h
  obtain ⟨w', hr, h3, h4⟩ := h1.update (int_keyed hk) ht hn (keyOf_int_mk hk hi) (d := .held v) (ps := []) (val := v) rfl
  refine ⟨w', hr, ⟨_, h3, fun j hj z => ?_⟩, h4⟩
  unfold lk updI
  by_cases hji : j = i
  · subst hji
    rw [Maps.atKey_put_same h1.isMap (by exact trivial)]
    simp
  · rw [Maps.atKey_put_other (by intro h; injection h with _ h; exact hji h), h2 j hj z, if_neg hji]
    rfl
end
theorem MapI.wipe (h : MapI w P k b n f) {t e : TypeId} (ht : P.underlying t = some (.map k e)) (ty : TypeId) :
    ∃ w', (Builtin.clear_ #[t] ty #[.map (some b)]).run P w = .ok (.tuple #[]) w' ∧ MapI w' P k b n (fun _ => none) ∧ w.grownBy w' (some b) := by
  obtain ⟨D, ⟨es, clock, h0, F, hs, hD⟩, h2⟩ := h
  refine ⟨ChangeMaps.setBlock w b (.map #[] clock), ?_, ⟨.map [], ⟨#[], clock, ChangeMaps.heap_setBlock_same h0 _, ⟨by simp, MapKept.stamped_empty clock, by simp⟩, Nat.zero_le _, rfl⟩, fun i _ z => rfl⟩, ⟨rfl, rfl, rfl, by simp [ChangeMaps.setBlock], fun i _ hi => ChangeMaps.heap_setBlock_other h0 _ (fun e => hi (by rw [e]))⟩⟩
  simp [Builtin.clear_, run_underlying ht, MapKept.run_getObj_map h0, MapKept.run_setObj_map _ h0, Result.andThen, ChangeMaps.setBlock]
/-- 'for i, v := range m' under way -/
def RunsI (w : World) (P : Program) (k : TypeId) (b r n : Nat) (f : Int → Option Value) (left : Int → Bool) (cnt : Nat) : Prop :=
  ∃ (D : DataW Value) (lf : Lit → Bool), w.ranges P k asIs b r n D lf cnt ∧ (∀ i, I64 i → ∀ z, D.atKey (.int .i64 i) z = lk f i z) ∧ ∀ i, I64 i → lf (.int .i64 i) = left i
theorem RunsI.owns {r cnt : Nat} {left : Int → Bool} (h : RunsI w P k b r n f left cnt) : MapI w P k b n f := by
  obtain ⟨D, lf, h1, h2, _⟩ := h
  exact ⟨D, h1.owns, h2⟩
theorem RunsI.left_eq {r cnt : Nat} {left : Int → Bool} (h : RunsI w P k b r n f left cnt) : w.rangeLeft b r = cnt := by
  obtain ⟨D, lf, h1, _⟩ := h
  exact h1.left_eq
theorem RunsI.lt {r cnt : Nat} {left : Int → Bool} (h : RunsI w P k b r n f left cnt) : r < w.heap.size := by
  obtain ⟨D, lf, h1, _⟩ := h
  exact h1.lt
theorem RunsI.ne {r cnt : Nat} {left : Int → Bool} (h : RunsI w P k b r n f left cnt) : r ≠ b := by
  obtain ⟨D, lf, h1, _⟩ := h
  exact h1.ne
theorem RunsI.kept {r cnt : Nat} {left : Int → Bool} {row : Option Nat} (h : RunsI w P k b r n f left cnt) (hg : w.grownBy w' row) (hb : some b ≠ row) (hr : some r ≠ row) : RunsI w' P k b r n f left cnt := by
  obtain ⟨D, lf, h1, h2⟩ := h
  exact ⟨D, lf, h1.kept hg hb hr, h2⟩
section
variable {ops : Array Oper} {rest : List Oper} {o : Oper} {a : Act} {Q : Exit → Act → World → Prop}
theorem wpList_lookI (hg : o.guard = none) (m x : Operand) (t : TypeId) (hop : o.op = Op.lookup t m x false) (k e : TypeId) (hk : P.underlying k = some (.int .i64)) (ht : P.underlying t = some (.map k e)) {z : Value} (hz : (zeroValue e).run P w = .ok z w)
    (b n : Nat) (f : Int → Option Value) (hm : a.eval m = .map (some b)) (h : MapI w P k b n f) (i : Int) (hx : a.eval x = .int .i64 i) (hi : I64 i)
    (hK : wpList P ops Q rest (a.put o.dst ((f i).getD z)) w) : wpList P ops Q (o :: rest) a w := by
  refine wpList_plain hg fun K' hK' => ?_
  have hrun := h.look hk ht hz hi
  unfold Oper.wp
  simp [execOp, hop, hm, hx, hrun, Result.andThen]
  exact hK' _ _ hK
theorem wpList_lookI_ok (hg : o.guard = none) (m x : Operand) (t : TypeId) (hop : o.op = Op.lookup t m x true) (k e : TypeId) (hk : P.underlying k = some (.int .i64)) (ht : P.underlying t = some (.map k e)) {z : Value} (hz : (zeroValue e).run P w = .ok z w)
    (b n : Nat) (f : Int → Option Value) (hm : a.eval m = .map (some b)) (h : MapI w P k b n f) (i : Int) (hx : a.eval x = .int .i64 i) (hi : I64 i)
    (hK : wpList P ops Q rest (a.put o.dst (.tuple #[(f i).getD z, .bool (f i).isSome])) w) : wpList P ops Q (o :: rest) a w := by
  refine wpList_plain hg fun K' hK' => ?_
  have hrun := h.look_ok hk ht hz hi
  unfold Oper.wp
  simp [execOp, hop, hm, hx, hrun, Result.andThen]
  exact hK' _ _ hK
theorem wpList_storeI (hg : o.guard = none) (m x v : Operand) (t : TypeId) (hop : o.op = Op.mapUpdate t m x v) (k e : TypeId) (hk : P.underlying k = some (.int .i64)) (ht : P.underlying t = some (.map k e))
    (b n : Nat) (f : Int → Option Value) (hm : a.eval m = .map (some b)) (h : MapI w P k b n f) (hn : n < maxLen) (i : Int) (hx : a.eval x = .int .i64 i) (hi : I64 i) (u : Value) (hv : a.eval v = u)
    (hK : ∀ w', MapI w' P k b (n + 1) (updI f i u) → w.grownBy w' (some b) → wpList P ops Q rest (a.put o.dst undef) w') : wpList P ops Q (o :: rest) a w := by
  refine wpList_plain hg fun K' hK' => ?_
  obtain ⟨w', hrun, r1, r2⟩ := h.store hk ht hn hi u
  unfold Oper.wp
  simp [execOp, hop, hm, hx, hv, hrun, Result.andThen]
  exact hK' _ _ (hK w' r1 r2)
theorem wpList_wipeI (hg : o.guard = none) (m : Operand) (t : TypeId) (hop : o.op = Op.call { callee := Callee.builtin Builtin.clear, args := #[m], argTypes := #[t] }) (k e : TypeId) (ht : P.underlying t = some (.map k e))
    (b n : Nat) (f : Int → Option Value) (hm : a.eval m = .map (some b)) (h : MapI w P k b n f)
    (hK : ∀ w', MapI w' P k b n (fun _ => none) → w.grownBy w' (some b) → wpList P ops Q rest (a.put o.dst (.tuple #[])) w') : wpList P ops Q (o :: rest) a w := by
  refine wpList_plain hg fun K' hK' => ?_
  obtain ⟨w', hrun, r1, r2⟩ := h.wipe ht o.type
  unfold Oper.wp
  simp [execOp, hop, resolve, invoke, builtin, hm, hrun, Result.andThen]
  exact hK' _ _ (hK w' r1 r2)
theorem step_lookI {K : Act → World → Prop} {E : Prop} (hg : o.guard = none) (m x : Operand) (t : TypeId) (hop : o.op = Op.lookup t m x false) (k e : TypeId) (hk : P.underlying k = some (.int .i64)) (ht : P.underlying t = some (.map k e)) {z : Value} (hz : (zeroValue e).run P w = .ok z w)
    (b n : Nat) (f : Int → Option Value) (hm : a.eval m = .map (some b)) (h : MapI w P k b n f) (i : Int) (hx : a.eval x = .int .i64 i) (hi : I64 i)
    (hK : K (a.put o.dst ((f i).getD z)) w) : if Region.wanted o (yielded ops a.tmps) = true then Oper.wp P o a w K Q else E := by
  have hw : Region.wanted o (yielded ops a.tmps) = true := by simp [Region.wanted, hg]
  rw [if_pos hw]
  have hrun := h.look hk ht hz hi
  unfold Oper.wp
  simp [execOp, hop, hm, hx, hrun, Result.andThen]
  exact hK
theorem step_storeI {K : Act → World → Prop} {E : Prop} (hg : o.guard = none) (m x v : Operand) (t : TypeId) (hop : o.op = Op.mapUpdate t m x v) (k e : TypeId) (hk : P.underlying k = some (.int .i64)) (ht : P.underlying t = some (.map k e))
    (b n : Nat) (f : Int → Option Value) (hm : a.eval m = .map (some b)) (h : MapI w P k b n f) (hn : n < maxLen) (i : Int) (hx : a.eval x = .int .i64 i) (hi : I64 i) (u : Value) (hv : a.eval v = u)
    (hK : ∀ w', MapI w' P k b (n + 1) (updI f i u) → w.grownBy w' (some b) → K (a.put o.dst undef) w') : if Region.wanted o (yielded ops a.tmps) = true then Oper.wp P o a w K Q else E := by
  have hw : Region.wanted o (yielded ops a.tmps) = true := by simp [Region.wanted, hg]
  rw [if_pos hw]
  obtain ⟨w', hrun, r1, r2⟩ := h.store hk ht hn hi u
  unfold Oper.wp
  simp [execOp, hop, hm, hx, hv, hrun, Result.andThen]
  exact hK w' r1 r2
theorem wpList_rangeI (hg : o.guard = none) (m : Operand) (t : TypeId) (hop : o.op = Op.range t m) (k e : TypeId) (hk : P.underlying k = some (.int .i64)) (ht : P.underlying t = some (.map k e))
    (b n : Nat) (f : Int → Option Value) (hm : a.eval m = .map (some b)) (h : MapI w P k b n f)
    (hK : ∀ w' cnt, RunsI w' P k b w.heap.size n f (fun i => (f i).isSome) cnt → w.grownBy w' none → w'.heap.size = w.heap.size + 1 → wpList P ops Q rest (a.put o.dst (.pointer (some ⟨w.heap.size, 0, none⟩))) w') :
    wpList P ops Q (o :: rest) a w := by
  obtain ⟨D, h1, h2⟩ := h
  refine wpList_range_own w hg m t hop k e (int_keyed hk) ht asIs b n D hm h1 fun w' r1 r2 r3 => hK w' _ ⟨D, _, r1, h2, fun i hi => ?_⟩ r2 r3
  have h3 := h2 i hi
  unfold lk at h3
  cases hf : f i with
  | none => rw [hf] at h3; rw [Maps.has_false_of_atKey h3]; simp [hf]
  | some u => rw [hf] at h3; rw [Maps.has_true_of_atKey h3]; simp [hf]
theorem wpList_nextI (hg : o.guard = none) (it : Operand) (hop : o.op = Op.next it false) (k : TypeId) (hk : P.underlying k = some (.int .i64))
    (b r n : Nat) (f : Int → Option Value) (left : Int → Bool) (cnt : Nat) (hit : a.eval it = .pointer (some ⟨r, 0, none⟩)) (h : RunsI w P k b r n f left cnt)
    (hDone : (∀ i, I64 i → left i = false) → wpList P ops Q rest (a.put o.dst (.tuple #[.bool false])) w)
    (hMore : ∀ (x : Int) (v : Value) (w' : World) (cnt' : Nat), I64 x → left x = true → f x = some v → RunsI w' P k b r n f (fun j => left j && !(j == x)) cnt' → cnt' < cnt → w.grownBy w' (some r) → w'.heap.size = w.heap.size →
      (Instr.entry (.pointer (some ⟨r, 0, none⟩))).run P w' = .ok (.tuple #[.int .i64 x, v]) w' → wpList P ops Q rest (a.put o.dst (.tuple #[.bool true, .int .i64 x, v])) w') :
    wpList P ops Q (o :: rest) a w := by
  obtain ⟨D, lf, h1, h2, h3⟩ := h
  refine wpList_next_ranges w hg it hop k (int_keyed hk) asIs (Value.int .i64) id (fun key kl hkey => ?_) (fun v y _ => ⟨v, rfl⟩) b r n D lf cnt hit h1 (fun _ hl => hDone fun i hi => by rw [← h3 i hi]; exact hl _) ?_
  · obtain ⟨x, rfl, _⟩ := Maps.keyOf_int_inv hk hkey
    exact ⟨x, rfl⟩
  · intro x c kl y w' cnt' hkey hlk hv hat hrg hlt hgr hsz hen
    obtain ⟨x', ex, rfl, hwx⟩ := Maps.keyOf_int_inv hk hkey
    cases ex
    have hl : left x = true := by rw [← h3 x hwx]; exact hlk
    have hf : f x = some c := by
      have h4 := hat .nil
      rw [h2 x hwx] at h4
      unfold asIs at hv
      cases hv
      unfold lk at h4
      cases hf : f x with
      | none => rw [hf] at h4; cases h4
      | some u => rw [hf] at h4; simp at h4; rw [h4]
    refine hMore x c w' cnt' hwx hl hf ⟨D, _, hrg, h2, fun i hi => ?_⟩ hlt hgr hsz hen
    show (lf (Lit.int .i64 i) && _) = (left i && _)
    rw [← h3 i hi]
    by_cases hix : i = x
    · subst hix
      simp [Lit.sameKey]
    · simp [Lit.sameKey, hix]
end
end
end Sw
