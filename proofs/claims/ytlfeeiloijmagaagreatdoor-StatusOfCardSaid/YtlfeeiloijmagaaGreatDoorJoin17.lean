/- Several texts, joined for the limit of sixty files; each one opens with its own comment. -/
import Derived.Test.YtlfeeiloijmagaaGreatDoorJoin10
import Derived.Test.YtlfeeiloijmagaaGreatDoorJoin16
import Derived.Lib.AppendZeros
import Derived.Test.YtlfeeiloijmagaaGreatDoorJoin15
import Derived.StillTail
import Derived.StillTactics
import Derived.Deep.QuietTactic
import Derived.BigQuiet
/- append(out, l...): the source any slice that reads as a list, nil let in. Over any program. -/
set_option linter.unusedVariables false
set_option linter.unusedSimpArgs false
namespace Sw
open Go Go.RowKit
section
variable {P : Program}
theorem run_app_nilc (w : World) (base : Nat) (t ty e : TypeId) (i : TypeInfo) (size : Nat) (ht : P.underlying t = some (.slice e)) (hi : P.info? e = some i) (v : Value) (n : Nat) (xs : List Value) (hown : w.ownsRow base e size v n xs) (c : Nat) :
    (Builtin.append_ #[t, t] ty #[v, .slice none 0 c]).run P w = .ok v w := by
  obtain ⟨A, k, rfl, hnk, _, _⟩ := SlV_of_any hown
  cases A <;> simp [Builtin.append_, run_underlying ht, Builtin.lenOf, Builtin.firstCells, Go.sizeOf, typeInfo, hi, hnk, Go.loadCells, Go.storeCells]
/-- 'append(s, x...)': s the call's own row, x any slice that reads as the list l -/
theorem wpList_app_slv {w : World} {ops : Array Oper} {rest : List Oper} {o : Oper} {a : Act} {Q : Exit → Act → World → Prop} (hgd : o.guard = none) (s x : Operand) (t : TypeId)
    (ho : o.op = .call { callee := .builtin .append, args := #[s, x], argTypes := #[t, t] })
    (base : Nat) (e : TypeId) (z : Value) (size bytes : Nat) (ht : P.underlying t = some (.slice e)) (hi : (P.info? e).map (fun i => (i.zero, i.size, i.bytes)) = some (some z, size, bytes)) (hzs : z.cells.size = size) (hsz : 0 < size)
    (v : Value) (n : Nat) (xs : List Value) (hs : a.eval s = v) (hown : w.ownsRow base e size v n xs)
    {α : Type} (E : α → List Value) (hE : ∀ y, (E y).length = size) (hE1 : ∀ y, ∀ u ∈ E y, u.oneCell' = true) (u : Value) (l : List α) (hx : a.eval x = u) (hu : SlV w size E u l)
    (hn : n + l.length ≤ 1000000) (hby : bytes ≤ 1000000) (hbase : base ≤ w.heap.size)
    (h : ∀ v' w', w'.ownsRow base e size v' (n + l.length) (xs ++ l.flatMap E) → w.grownBy w' v.ownBlock → wpList P ops Q rest (a.put o.dst v') w') : wpList P ops Q (o :: rest) a w := by
  obtain ⟨i, hi0, hz, hs2, hb⟩ := info_parts hi
  obtain ⟨A, c, rfl, hc1, hc2, hsl⟩ := hu
  cases A with
  | none =>
    have h0 : l = [] := by
      cases l with
      | nil => rfl
      | cons y l => obtain ⟨b, off, h, _⟩ := hsl (by simp); cases h
    subst h0
    have hrun := run_app_nilc w base t o.type e i size ht hi0 v n xs hown c
    refine wpList_plain hgd fun K hK => ?_
    unfold Oper.wp
    simp only [List.length_nil] at hx
    simp [execOp, ho, resolve, invoke, builtin, hs, hx, hrun, Result.andThen]
    exact hK _ _ (h v w (by simpa using hown) (grown_refl _ _))
  | some ad =>
    have hlen : (l.flatMap E).length = l.length * size := flat_len hE l
    refine wpList_append_own (w := w) hgd s x t ho base e i z size bytes ht hi0 hz hs2 hb hzs hsz v n xs hs hown ad l.length c (l.flatMap E) hx hlen ?_ ?_ (by unfold maxLen; omega) ?_ hbase (fun v' w' h1 h2 _ => h v' w' h1 h2)
    · intro j q hj
      have hjl := (List.getElem?_eq_some_iff.1 hj).1
      rw [hlen] at hjl
      have hpos : 0 < l.length := by
        rcases Nat.eq_zero_or_pos l.length with h0 | h0
        · rw [h0] at hjl; omega
        · exact h0
      obtain ⟨b, off, hA, _, hcs⟩ := hsl hpos
      rw [Option.some.inj hA, add_mk]
      have hq : j / size < l.length := Nat.div_lt_of_lt_mul (by rw [Nat.mul_comm]; exact hjl)
      have hr : j % size < size := Nat.mod_lt _ hsz
      have hd : j / size * size + j % size = j := by rw [Nat.mul_comm]; exact Nat.div_add_mod j size
      have h1 := flat_get hE l (j / size) hq (j % size) hr
      rw [hd, hj] at h1
      have h2 := hcs (j / size) hq (j % size) hr
      rw [Nat.add_assoc, hd] at h2
      rw [h2, ← h1]
    · intro q hq
      rw [List.mem_flatMap] at hq
      obtain ⟨y, _, hy⟩ := hq
      exact hE1 y q hy
    · calc (n + l.length) * bytes ≤ 1000000 * 1000000 := Nat.mul_le_mul hn hby
        _ ≤ 140737488355328 := by decide
end
end Sw
/- slices.Concat of two rows of marks. -/
set_option linter.unusedVariables false
set_option linter.unusedSimpArgs false
namespace Go.Proofs.YtlfeeiloijmagaaGreatDoor
open Go Go.RowKit
open Sw
/-- a mark's cells -/
def eCM (m : ByteArray × Pr) : List Value := [.string m.1, .int .i64 m.2.kind, .int .i64 m.2.mode, .int .u32 m.2.time, .int .i64 m.2.size, .int .u32 m.2.sum]
theorem eCM_len (m : ByteArray × Pr) : (eCM m).length = 6 := rfl
theorem eCM_one (m : ByteArray × Pr) : ∀ u ∈ eCM m, u.oneCell' = true := fun u hu => by
  simp only [eCM, List.mem_cons, List.not_mem_nil, or_false] at hu
  rcases hu with rfl | rfl | rfl | rfl | rfl | rfl <;> rfl
theorem infoMk : (Tryz.prog.info? 74).map (fun i => (i.zero, i.size, i.bytes)) = some (some (.agg #[.string ⟨#[]⟩, .int .i64 0, .int .i64 0, .int .u32 0, .int .i64 0, .int .u32 0]), 6, 56) := by kernel_rfl
set_option maxRecDepth 100000 in
set_option maxHeartbeats 2000000 in
theorem growM_any (w : World) (n : Nat) (hn : n ≤ 1000000) :
    Calls Tryz.prog 108 #[.slice none 0 0, .int .i64 n] w fun e w' => ∃ u, e = .returned u ∧ w'.ownsRow w.heap.size 74 6 u 0 [] ∧ Below w.heap.size w w' := by
  have hw0 : IntKind.i64.wrap ((n : Int) - 0) = n := by rw [IntWalk.i64_in _ (by omega)]; omega
  by_cases h0 : n = 0
  · subst h0
    go_enter Tryz.func108, Tryz.ntmps108
    go_wp2_with fail
    go_ret
    exact ⟨_, rfl, World.ownsRow_nil _ _ _ _, Below.refl _ _⟩
  · have hp : (0 : Int) < n := by omega
    obtain ⟨i, hi, hz, hs2, hb⟩ := info_parts infoMk
    obtain ⟨G, hG⟩ : ∃ G, grownCap w n 0 74 = G := ⟨_, rfl⟩
    have hGn : n ≤ G := by rw [← hG]; exact grownCap_ge w _ _ _
    have hG63 : G ≤ maxLen := by rw [← hG]; exact grownCap_le_maxLen w n 0 74 (by unfold maxLen; omega)
    obtain ⟨R, hR⟩ : ∃ R : Array Value, Builtin.zeroCells (Value.cells (.agg #[.string ⟨#[]⟩, .int .i64 0, .int .i64 0, .int .u32 0, .int .i64 0, .int .u32 0])) n ++ Builtin.zeroCells (Value.cells (.agg #[.string ⟨#[]⟩, .int .i64 0, .int .i64 0, .int .u32 0, .int .i64 0, .int .u32 0])) (G - n) = R := ⟨_, rfl⟩
    have hRl : R.size = G * 6 := by
      rw [← hR]
      simp only [Array.size_append, size_zeroCells]
      simp [Value.cells]
      omega
    obtain ⟨W0, hW0⟩ : ∃ W0, w.drew.alloc (.cells R 74) = W0 := ⟨_, rfl⟩
    have hrz : ∀ ty, (Builtin.append_ #[22, 3] ty #[.slice none 0 0, .int .i64 (n : Int)]).run Tryz.prog w = .ok (.slice (some ⟨w.heap.size, 0, none⟩) n G) W0 := fun ty => by
      have h := Lib.run_append_nil_zeros w 22 3 ty 74 i _ .i64 .i64 Tryz.underlying22 Tryz.underlying3 hi hz n (by omega) (by omega) (by omega) (by rw [hb]; omega)
      rw [h, hG, hR, hW0]
    have HF := Lib.hid (show W0.ownsRow w.heap.size 74 6 (.slice (some ⟨w.heap.size, 0, none⟩) 0 G) 0 [] ∧ Below w.heap.size w W0 from by
      rw [← hW0]
      exact ⟨own_mk (Nat.le_refl _) (Blk.new w.drew _ _) (Nat.zero_le _) hG63 (by rw [hRl]) (by simp), ((Below.refl _ w).drew).alloc (Nat.le_refl _) _⟩)
    have hG0 : (0 : Int) ≤ G := by omega
    clear hRl hR hW0 hG hi hz hs2 hb hG63
    go_enter Tryz.func108, Tryz.ntmps108
    go_wp2_with (at_builtin; refine Lib.wpList_append_run _ rfl _ _ _ _ rfl _ _ rfl rfl _ _ (hrz _) ?_)
    go_ret
    exact ⟨_, rfl, HF.out.1, HF.out.2⟩
set_option maxRecDepth 100000 in
set_option maxHeartbeats 8000000 in
theorem concatM_any (w : World) (g : Nat) (tg : TypeId) (u1 u2 : Value) (l1 l2 : List (ByteArray × Pr)) (hg : Blk w g tg #[u1, u2]) (h1 : SlV w 6 eCM u1 l1) (h2 : SlV w 6 eCM u2 l2) (hl1 : l1.length ≤ 100000) (hl2 : l2.length ≤ 100000) :
    Calls Tryz.prog 71 #[.slice (some ⟨g, 0, none⟩) 2 2] w fun e w' => ∃ u, e = .returned u ∧ w'.ownsRow w.heap.size 74 6 u (l1 ++ l2).length ((l1 ++ l2).flatMap eCM) ∧ Below w.heap.size w w' := by
  have c0 := hg.cell 0
  have c1 := hg.cell 1
  simp at c0 c1
  have HG := Lib.hid (growM_any w (l1.length + l2.length) (by omega))
  have H0 := Lib.hid (And.intro hg (And.intro h1 h2))
  obtain ⟨A1, k1, rfl, _, _, _⟩ := h1
  obtain ⟨A2, k2, rfl, _, _, _⟩ := h2
  obtain ⟨n1, hn1⟩ : ∃ n1, l1.length = n1 := ⟨_, rfl⟩
  obtain ⟨n2, hn2⟩ : ∃ n2, l2.length = n2 := ⟨_, rfl⟩
  have HL := Lib.hid (And.intro hn1 hn2)
  rw [hn1] at HG H0 c0 hl1
  rw [hn2] at HG H0 c1 hl2
  have w1 : IntKind.i64.wrap ((n1 : Int)) = n1 := IntWalk.i64_in _ (by omega)
  have w2 : IntKind.i64.wrap ((n1 : Int) + (n2 : Int)) = ((n1 + n2 : Nat) : Int) := by rw [IntWalk.i64_in _ (by omega)]; omega
  have p1 : ¬ (n1 : Int) < 0 := by omega
  have p2 : ¬ ((n1 + n2 : Nat) : Int) < 0 := by omega
  clear hg hn1 hn2
  go_enter Tryz.func71, Tryz.ntmps71
  go_wp2_with fail
  go_loopw [3, 11] (fun s iv wr => wr = w ∧ ((iv = .int .i64 0 ∧ s = .int .i64 0) ∨ (iv = .int .i64 1 ∧ s = .int .i64 n1) ∨ (iv = .int .i64 2 ∧ s = .int .i64 ((n1 + n2 : Nat) : Int)))) (fun _ iv _ => 2 - (intOf iv).toNat)
  case atStart => exact ⟨rfl, .inl ⟨rfl, rfl⟩⟩
  case round =>
    obtain ⟨hw, h3⟩ := hrel
    rw [hw]
    clear hw
    rcases h3 with ⟨rfl, rfl⟩ | ⟨rfl, rfl⟩ | ⟨rfl, rfl⟩
    · go_wp2_with fail
      go_roundw
      case rel => exact ⟨trivial, .inr (.inl ⟨by go_num, rfl⟩)⟩
      case measure => simp [intOf]
    · go_wp2_with fail
      go_roundw
      case rel => exact ⟨trivial, .inr (.inr ⟨by go_num, rfl⟩)⟩
      case measure => simp [intOf]
    · go_wp2_with fail
      refine HG.out.mono ?_
      rintro e w3 ⟨u, rfl, ho3, hb3⟩
      obtain ⟨A3, k3, rfl, _, _, _⟩ := SlV_of_any ho3
      have H3 := Lib.hid (And.intro ho3 hb3); clear ho3 hb3 HG
      clear wr
      go_wp2_with fail
      go_loopw [6, 27] (fun o iv wr => Below w.heap.size w wr ∧ ((iv = .int .i64 0 ∧ wr.ownsRow w.heap.size 74 6 o 0 []) ∨ (iv = .int .i64 1 ∧ wr.ownsRow w.heap.size 74 6 o (0 + l1.length) ([] ++ l1.flatMap eCM)) ∨ (iv = .int .i64 2 ∧ wr.ownsRow w.heap.size 74 6 o (0 + l1.length + l2.length) ([] ++ l1.flatMap eCM ++ l2.flatMap eCM)))) (fun _ iv _ => 2 - (intOf iv).toNat)
      case atStart => exact ⟨H3.out.2, .inl ⟨rfl, H3.out.1⟩⟩
      case round =>
      obtain ⟨hb, (⟨rfl, ho⟩ | ⟨rfl, ho⟩ | ⟨rfl, ho⟩)⟩ := hrel
      all_goals have hbs := hb.size
      · have e0 := (H0.out.1.below hb H0.out.1.lt).cell 0
        simp at e0
        have hs := H0.out.2.1.below hb (Nat.le_refl _)
        obtain ⟨A4, k4, rfl, _, _, _⟩ := SlV_of_any ho
        have H4 := Lib.hid (And.intro ho (And.intro hb hs)); clear ho hs hb
        go_wp2_with (at_builtin; refine wpList_app_slv rfl _ _ 22 rfl w.heap.size 74 (.agg #[.string ⟨#[]⟩, .int .i64 0, .int .i64 0, .int .u32 0, .int .i64 0, .int .u32 0]) 6 56 Tryz.underlying22 infoMk rfl (by decide) _ 0 _ rfl H4.out.1 eCM eCM_len eCM_one _ l1 rfl H4.out.2.2 (by have := HL.out; omega) (by decide) hbs ?_; intro v5 w5 ho5 hg5)
        obtain ⟨A5, k5, rfl, _, _, _⟩ := SlV_of_any ho5
        have H5 := Lib.hid (And.intro ho5 (H4.out.2.1.grown hg5 hbs (fun q hq => (H4.out.1.lt q hq).1))); clear ho5 hg5
        go_wp2_with fail
        go_roundw
        case rel => exact ⟨H5.out.2, .inr (.inl ⟨by go_num, H5.out.1⟩)⟩
        case measure => simp [intOf]
      · have e0 := (H0.out.1.below hb H0.out.1.lt).cell 1
        simp at e0
        have hs := H0.out.2.2.below hb (Nat.le_refl _)
        obtain ⟨A4, k4, rfl, _, _, _⟩ := SlV_of_any ho
        have H4 := Lib.hid (And.intro ho (And.intro hb hs)); clear ho hs hb
        go_wp2_with (at_builtin; refine wpList_app_slv rfl _ _ 22 rfl w.heap.size 74 (.agg #[.string ⟨#[]⟩, .int .i64 0, .int .i64 0, .int .u32 0, .int .i64 0, .int .u32 0]) 6 56 Tryz.underlying22 infoMk rfl (by decide) _ (0 + l1.length) _ rfl H4.out.1 eCM eCM_len eCM_one _ l2 rfl H4.out.2.2 (by have := HL.out; omega) (by decide) hbs ?_; intro v5 w5 ho5 hg5)
        obtain ⟨A5, k5, rfl, _, _, _⟩ := SlV_of_any ho5
        have H5 := Lib.hid (And.intro ho5 (H4.out.2.1.grown hg5 hbs (fun q hq => (H4.out.1.lt q hq).1))); clear ho5 hg5
        go_wp2_with fail
        go_roundw
        case rel => exact ⟨H5.out.2, .inr (.inr ⟨by go_num, H5.out.1⟩)⟩
        case measure => simp [intOf]
      · obtain ⟨A4, k4, rfl, _, _, _⟩ := SlV_of_any ho
        rw [HL.out.1, HL.out.2]
        have H4 := Lib.hid (And.intro ho hb); clear ho hb
        rw [HL.out.1, HL.out.2] at H4
        go_wp2_with fail
        go_ret
        have h9 : wr.ownsRow w.heap.size 74 6 (.slice A4 (0 + n1 + n2) k4) (l1 ++ l2).length ((l1 ++ l2).flatMap eCM) := by
          rw [List.length_append, List.flatMap_append, HL.out.1, HL.out.2]
          have := H4.out.1
          rw [List.nil_append] at this
          rw [Nat.zero_add] at this ⊢
          exact this
        exact ⟨_, rfl, h9, H4.out.2⟩
end Go.Proofs.YtlfeeiloijmagaaGreatDoor
/- An argument that is a Base, opened. -/
set_option linter.unusedVariables false
namespace Go.Proofs.YtlfeeiloijmagaaGreatDoor
open Go Go.ChangeShapes Go.WideShapes Go.ChangeAt Go.RowKit
open Sw
section
open Go.Deep
variable {H : Type} {enc : TypeId × Value → H} {P : Program} {w : World}
/-- A slice inside of what was read, by a decoder of its elements. -/
theorem slice_of_trodB {α : Type} (E : α → List Value) (V : α → Prop) {t e : TypeId} {fuel : Nat} {cs : List Value} {x : DataW H × List MemPlace} {size : Nat} (ht : P.underlying t = some (.slice e)) (hC : P.cellsOf e = size) (hs : 0 < size)
    (hdec : ∀ fuel cs x, DataW.trod enc P w 0 (fun _ => true) true fuel e cs = some x → ∃ a : α, cs = E a ∧ V a)
    (hf : DataW.trod enc P w 0 (fun _ => true) true fuel t cs = some x) :
    ∃ (A : Option Addr) (n c : Nat) (l : List α), cs = [.slice A n c] ∧ n ≤ c ∧ c ≤ maxLen ∧ l.length = n ∧ SlOf w size E A l ∧ (∀ a ∈ l, V a) := by
  rcases open_slice ht hf with ⟨h0, _⟩ | ⟨a, len, cap, m, k, D, Pl, hcs, hb, hl, hm, hmm, hx, hi⟩
  · exact ⟨none, 0, 0, [], h0, Nat.le_refl _, by simp [maxLen], rfl, SlOf.nil _ _ _ _, by simp⟩
  · rw [hC] at hi
    have hmc : m = cap := by simpa using hmm
    subst hmc
    obtain ⟨l, hlen, hq⟩ := exists_list (Q := fun i (x : α) => V x ∧ (E x).length = size ∧ ∀ j, j < size → w.cell? ((a.add (i * size)).add j) = (E x)[j]?) len (fun i hin => by
      obtain ⟨cs', hc, htr⟩ := hi i (by omega)
      obtain ⟨x, rfl, hx⟩ := hdec _ _ _ htr
      obtain ⟨_, hcl, hat⟩ := World.cells?_some hc
      exact ⟨x, hx, hcl, fun j hj => hat j hj⟩)
    refine ⟨some a, len, m, l, hcs, hl, hm, hlen, fun hn => ?_, fun x hx => ?_⟩
    · obtain ⟨_, hsz, hat⟩ := hq 0 hn
      have h0 := hat 0 hs
      rw [List.getElem?_eq_getElem (by omega)] at h0
      have hsp := World.cell?_spot h0
      have hlt := World.block_lt_of_cell? w _ h0
      rw [add_add, Nat.zero_mul, Nat.add_zero] at hsp hlt
      rw [show a.add 0 = a from rfl] at hsp hlt
      obtain ⟨b, off, spot⟩ := a
      have hsp' : spot = none := hsp
      subst hsp'
      refine ⟨b, off, rfl, hlt, fun i hi j hj => ?_⟩
      have h1 := (hq i hi).2.2 j hj
      rw [add_mk, add_mk] at h1
      exact h1
    · obtain ⟨i, hi', rfl⟩ := List.getElem_of_mem hx
      exact (hq i hi').1
end
/-- a mark that came in -/
def MkIn (m : ByteArray × Pr) : Prop := m.1.size ≤ maxLen ∧ m.2.In
set_option maxRecDepth 100000 in
theorem dec_mark {H : Type} {enc : TypeId × Value → H} {w : World} (fuel : Nat) (cs : List Value) (x : DataW H × List MemPlace) (h : DataW.trod enc Tryz.prog w 0 (fun _ => true) true fuel 74 cs = some x) :
    ∃ e : ByteArray × Pr, cs = eCM e ∧ MkIn e := by
  obtain ⟨y0, y1, n, _, hl, h0, h1⟩ := trod_struct2 Tryz.underlying74 h
  have hl6 : cs.length = 6 := hl.trans (by kernel_rfl)
  match cs, hl6 with
  | [c0, c1, c2, c3, c4, c5], _ =>
    rw [show Tryz.prog.cellsOf 9 = 1 by kernel_rfl] at h0
    rw [show Tryz.prog.cellsOf 62 = 5 by kernel_rfl] at h1
    simp only [List.drop_zero, List.drop_succ_cons, List.take_succ_cons, List.take_zero] at h0 h1
    obtain ⟨s, hs, _, hsz⟩ := DataW.trod_string Tryz.underlying9 h0
    simp at hs
    subst hs
    obtain ⟨m, hm, hin⟩ := dec_print _ _ _ h1
    simp [Pr.c] at hm
    obtain ⟨rfl, rfl, rfl, rfl, rfl⟩ := hm
    exact ⟨(s, m), rfl, hsz, hin⟩
set_option maxRecDepth 100000 in
theorem open_base {H : Type} {enc : TypeId × Value → H} {w : World} {r : Reach} {b0 : Nat} {v : Value} {d : DataW H} {p : List MemPlace} (hv : Value.okWide Tryz.prog w r b0 24 v) (h : DataW.Trod enc Tryz.prog w 0 (fun _ => true) true 24 v d p) :
    ∃ (u1 u2 : Value) (l1 l2 : List (ByteArray × Pr)), v = .agg #[u1, u2] ∧ SlV w 6 eCM u1 l1 ∧ SlV w 6 eCM u2 l2 ∧ (∀ m ∈ l1, MkIn m) ∧ ∀ m ∈ l2, MkIn m := by
  obtain ⟨cs, rfl, hsz⟩ := okWide_struct Tryz.underlying24 hv
  obtain ⟨fuel, hf⟩ := h
  obtain ⟨y0, y1, n, _, hl, h0, h1⟩ := trod_struct2 Tryz.underlying24 hf
  have hl2 : cs.toList.length = 2 := hl.trans (by kernel_rfl)
  obtain ⟨c0, c1, hcs⟩ : ∃ c0 c1, cs.toList = [c0, c1] := by
    match hq : cs.toList, hl2 with
    | [c0, c1], _ => exact ⟨c0, c1, rfl⟩
  rw [show (Value.agg cs).cells.toList = [c0, c1] from hcs] at h0 h1
  rw [show Tryz.prog.cellsOf 22 = 1 by kernel_rfl] at h0 h1
  simp only [List.drop_zero, List.drop_succ_cons, List.take_succ_cons, List.take_zero] at h0 h1
  obtain ⟨A1, m1, k1, l1, e1, q1, q2, q3, q4, q5⟩ := slice_of_trodB (size := 6) eCM MkIn Tryz.underlying22 (by kernel_rfl) (by decide) dec_mark h0
  obtain ⟨A2, m2, k2, l2, e2, p1, p2, p3, p4, p5⟩ := slice_of_trodB (size := 6) eCM MkIn Tryz.underlying22 (by kernel_rfl) (by decide) dec_mark h1
  simp at e1 e2
  subst e1 e2 q3 p3
  exact ⟨_, _, l1, l2, by congr 1; exact Array.ext' hcs, ⟨A1, k1, rfl, q1, q2, q4⟩, ⟨A2, k2, rfl, p1, p2, p4⟩, q5, p5⟩
end Go.Proofs.YtlfeeiloijmagaaGreatDoor
/- An argument that is two rows of items, opened. -/
set_option linter.unusedVariables false
namespace Go.Proofs.YtlfeeiloijmagaaGreatDoor
open Go Go.ChangeShapes Go.WideShapes Go.ChangeAt Go.RowKit
open Sw
set_option maxRecDepth 100000 in
theorem open_items2 {H : Type} {enc : TypeId × Value → H} {w : World} {r : Reach} {b0 : Nat} {v : Value} {d : DataW H} {p : List MemPlace} (hv : Value.okWide Tryz.prog w r b0 26 v) (h : DataW.Trod enc Tryz.prog w 0 (fun _ => true) true 26 v d p) :
    ∃ (v1 v2 : Value) (xs ys : List NE), v = .agg #[v1, v2] ∧ SlV w 5 eCSN v1 xs ∧ SlV w 5 eCSN v2 ys ∧ (∀ x ∈ xs, NEIn x) ∧ ∀ x ∈ ys, NEIn x := by
  obtain ⟨l, rfl, hl, hV⟩ := open_array_dec (n := 2) (e := 25) (fun a : Value × List NE => a.1) (fun a => SlV w 5 eCSN a.1 a.2 ∧ ∀ x ∈ a.2, NEIn x) Tryz.underlying26 (by kernel_rfl) (by kernel_rfl) (fun fuel c x hx => by
    obtain ⟨A1, m1, k1, l1, e1, q1, q2, q3, q4, q5⟩ := slice_of_trodB (size := 5) eCSN NEIn Tryz.underlying25 (by kernel_rfl) (by decide) dec_item hx
    simp at e1
    subst e1 q3
    exact ⟨(_, l1), rfl, ⟨A1, k1, rfl, q1, q2, q4⟩, q5⟩) hv h
  match l, hl with
  | [a, b], _ => exact ⟨a.1, b.1, a.2, b.2, rfl, (hV a (by simp)).1, (hV b (by simp)).1, (hV a (by simp)).2, (hV b (by simp)).2⟩
end Go.Proofs.YtlfeeiloijmagaaGreatDoor
/- slices.SortStableFunc at rows of api.Mark: two stretches side by side change places. -/
set_option linter.unusedVariables false
set_option linter.unusedSimpArgs false
namespace Go.Proofs.YtlfeeiloijmagaaGreatDoor
open Go Go.RowKit
open Sw
set_option maxRecDepth 100000 in
set_option maxHeartbeats 4000000 in
theorem rotateMK_any (w : World) (base : Nat) (A : Option Addr) (c : Nat) (cv : Value) (n a m b : Nat) (P U V Q : List ({ s : ByteArray // s.size ≤ 90000 } × Pr)) (hn : n ≤ 1000000) (hlen : (P ++ U ++ V ++ Q).length = n) (hP : P.length = a) (hU : a + U.length = m) (hV : m + V.length = b) (hU0 : 0 < U.length) (hV0 : 0 < V.length)
    (hown : w.ownsRow base 74 6 (.slice A n c) n ((P ++ U ++ V ++ Q).flatMap eCMK)) :
    Calls Tryz.prog 171 #[.slice A n c, .int .i64 a, .int .i64 m, .int .i64 b, cv] w fun e w' => e = .returned (.tuple #[]) ∧ w'.ownsRow base 74 6 (.slice A n c) n ((P ++ V ++ U ++ Q).flatMap eCMK) ∧ w.grownBy w' (Value.slice A n c).ownBlock := by
  have hlen' : P.length + U.length + V.length + Q.length = n := by rw [← hlen]; simp only [List.length_append]
  obtain ⟨T, hT⟩ : ∃ T, P ++ V ++ U ++ Q = T := ⟨_, rfl⟩
  have HT := Lib.hid hT
  have HO := Lib.hid (And.intro hown hlen)
  rw [hT]
  clear hT hown hlen
  have w1 : IntKind.i64.wrap ((m : Int) - a) = m - a := IntWalk.i64_in _ (by omega)
  have w2 : IntKind.i64.wrap ((b : Int) - m) = b - m := IntWalk.i64_in _ (by omega)
  go_enter Tryz.func171, Tryz.ntmps171
  go_wp2_with fail
  go_loopw [10, 11] (fun iv jv wr => ∃ (i j : Nat) (P' U' V' Q' : List ({ s : ByteArray // s.size ≤ 90000 } × Pr)), iv = .int .i64 i ∧ jv = .int .i64 j ∧ 0 < i ∧ 0 < j ∧ U'.length = i ∧ V'.length = j ∧ P'.length + i = m ∧ P' ++ V' ++ U' ++ Q' = T ∧ (P' ++ U' ++ V' ++ Q').length = n ∧ wr.ownsRow base 74 6 (.slice A n c) n ((P' ++ U' ++ V' ++ Q').flatMap eCMK) ∧ w.grownBy wr (Value.slice A n c).ownBlock) (fun iv jv _ => (intOf iv + intOf jv).toNat)
  case atStart => exact ⟨U.length, V.length, P, U, V, Q, by go_num, by go_num, hU0, hV0, rfl, rfl, by omega, HT.out, HO.out.2, HO.out.1, grown_refl _ _⟩
  case round =>
    obtain ⟨i, j, P', U', V', Q', rfl, rfl, hi0, hj0, hU', hV', hPi, hTT, hln, hrow, hg⟩ := hrel
    have hln' : P'.length + i + j + Q'.length = n := by rw [← hln, ← hU', ← hV']; simp only [List.length_append]
    have HG := Lib.hid (And.intro hTT (And.intro hln (And.intro hrow hg))); clear hTT hln hrow hg HO
    have p1 : (m : Int) - i = ((m - i : Nat) : Int) := by omega
    have p2 : (m : Int) + j - i = ((m + j - i : Nat) : Int) := by omega
    rcases Nat.lt_trichotomy i j with h | h | h
    · have hne : ((i : Int) != j) = true := by rw [bne_iff_ne]; omega
      have hgt : ¬ (j : Int) < i := by omega
      have w3 : IntKind.i64.wrap ((j : Int) - i) = ((j - i : Nat) : Int) := by rw [IntWalk.i64_in _ (by omega)]; omega
      have w4 : IntKind.i64.wrap (((m - i : Nat) : Int)) = ((m - i : Nat) : Int) := IntWalk.i64_in _ (by omega)
      have w5 : IntKind.i64.wrap ((m : Int) + j) = m + j := IntWalk.i64_in _ (by omega)
      have w6 : IntKind.i64.wrap (((m + j - i : Nat) : Int)) = ((m + j - i : Nat) : Int) := IntWalk.i64_in _ (by omega)
      have hsp : V' = V'.take (j - i) ++ V'.drop (j - i) := (List.take_append_drop _ _).symm
      have hse := swL_end P' U' (V'.take (j - i)) (V'.drop (j - i)) Q' (by rw [List.length_drop]; omega)
      have hl1 : (V'.take (j - i)).length = j - i := by rw [List.length_take]; omega
      have e1 : P' ++ U' ++ V'.take (j - i) ++ V'.drop (j - i) ++ Q' = P' ++ U' ++ V' ++ Q' := by
        conv => rhs; rw [hsp]
        simp only [List.append_assoc]
      rw [e1, hU', hl1, show P'.length + i + (j - i) = m + j - i by omega, show P'.length = m - i by omega] at hse
      have HS := Lib.hid (swapRangeMK_any wr base (.slice A n c) cv n (m - i) (m + j - i) i _ HG.out.2.1 hn (by omega) (by omega) HG.out.2.2.1)
      rw [hse] at HS
      have hT2 : P' ++ V'.take (j - i) ++ V'.drop (j - i) ++ (U' ++ Q') = T := by
        rw [← HG.out.1]
        conv => rhs; rw [hsp]
        simp only [List.append_assoc]
      have hl2 : (P' ++ V'.drop (j - i) ++ V'.take (j - i) ++ (U' ++ Q')).length = n := by simp only [List.length_append, List.length_drop, hl1]; omega
      have e2 : P' ++ V'.drop (j - i) ++ V'.take (j - i) ++ U' ++ Q' = P' ++ V'.drop (j - i) ++ V'.take (j - i) ++ (U' ++ Q') := by simp only [List.append_assoc]
      rw [e2] at HS
      have hl3 : (V'.drop (j - i)).length = i := by rw [List.length_drop]; omega
      have HX := Lib.hid (And.intro hT2 (And.intro hl2 (And.intro hl1 hl3))); clear hT2 hl2 hl1 hl3 e1 e2 hse hsp
      go_wp2_with fail
      refine HS.out.mono ?_
      rintro e w3' ⟨rfl, hrow2, hg2⟩
      have H3 := Lib.hid (And.intro hrow2 (grown_trans HG.out.2.2.2 hg2)); clear hrow2 hg2 HS
      go_wp2_with fail
      go_roundw
      case rel => exact ⟨i, j - i, P', V'.drop (j - i), V'.take (j - i), U' ++ Q', rfl, by go_num, hi0, by omega, HX.out.2.2.2, HX.out.2.2.1, by omega, HX.out.1, HX.out.2.1, H3.out.1, H3.out.2⟩
      case measure => simp [intOf]; omega
    · subst h
      have hne : ((i : Int) != i) = false := by simp
      have w4 : IntKind.i64.wrap (((m - i : Nat) : Int)) = ((m - i : Nat) : Int) := IntWalk.i64_in _ (by omega)
      have hse := swL_end P' U' [] V' Q' (by omega)
      rw [hU', List.length_nil, Nat.add_zero, show P'.length + i = m from hPi, show P'.length = m - i by omega, List.append_nil, List.append_nil] at hse
      have HS := Lib.hid (swapRangeMK_any wr base (.slice A n c) cv n (m - i) m i _ HG.out.2.1 hn (by omega) (by omega) HG.out.2.2.1)
      rw [hse, HG.out.1] at HS
      clear hse
      go_wp2_with fail
      refine HS.out.mono ?_
      rintro e w3' ⟨rfl, hrow2, hg2⟩
      have H3 := Lib.hid (And.intro hrow2 (grown_trans HG.out.2.2.2 hg2)); clear hrow2 hg2 HS
      go_wp2_with fail
      go_end0
      exact ⟨rfl, H3.out.1, H3.out.2⟩
    · have hne : ((i : Int) != j) = true := by rw [bne_iff_ne]; omega
      have hgt : (j : Int) < i := by omega
      have w3 : IntKind.i64.wrap ((i : Int) - j) = ((i - j : Nat) : Int) := by rw [IntWalk.i64_in _ (by omega)]; omega
      have w4 : IntKind.i64.wrap (((m - i : Nat) : Int)) = ((m - i : Nat) : Int) := IntWalk.i64_in _ (by omega)
      have hsp : U' = U'.take j ++ U'.drop j := (List.take_append_drop _ _).symm
      have hl1 : (U'.take j).length = j := by rw [List.length_take]; omega
      have hl3 : (U'.drop j).length = i - j := by rw [List.length_drop]; omega
      have hse := swL_end P' (U'.take j) (U'.drop j) V' Q' (by omega)
      have e1 : P' ++ U'.take j ++ U'.drop j ++ V' ++ Q' = P' ++ U' ++ V' ++ Q' := by
        conv => rhs; rw [hsp]
        simp only [List.append_assoc]
      rw [e1, hl1, hl3, show P'.length + j + (i - j) = m by omega, show P'.length = m - i by omega] at hse
      have HS := Lib.hid (swapRangeMK_any wr base (.slice A n c) cv n (m - i) m j _ HG.out.2.1 hn (by omega) (by omega) HG.out.2.2.1)
      rw [hse] at HS
      have hT2 : P' ++ V' ++ U'.take j ++ U'.drop j ++ Q' = T := by
        rw [← HG.out.1]
        conv => rhs; rw [hsp]
        simp only [List.append_assoc]
      have hl2 : (P' ++ V' ++ U'.drop j ++ U'.take j ++ Q').length = n := by simp only [List.length_append, hl1, hl3]; omega
      have HX := Lib.hid (And.intro hT2 (And.intro hl2 (And.intro hl1 hl3))); clear hT2 hl2 hl1 hl3 e1 hse hsp
      go_wp2_with fail
      refine HS.out.mono ?_
      rintro e w3' ⟨rfl, hrow2, hg2⟩
      have H3 := Lib.hid (And.intro hrow2 (grown_trans HG.out.2.2.2 hg2)); clear hrow2 hg2 HS
      go_wp2_with fail
      go_roundw
      case rel => exact ⟨i - j, j, P' ++ V', U'.drop j, U'.take j, Q', by go_num, rfl, by omega, hj0, HX.out.2.2.2, HX.out.2.2.1, by rw [List.length_append]; omega, HX.out.1, HX.out.2.1, H3.out.1, H3.out.2⟩
      case measure => simp [intOf]; omega
end Go.Proofs.YtlfeeiloijmagaaGreatDoor
/- A stable sort, plainly: rows of things with the place that each came from. -/
set_option linter.unusedVariables false
set_option linter.unusedSimpArgs false
namespace Sw
section
variable {α : Type}
/-- a comparison that is an order but for ties -/
structure Cmp (c : α → α → Int) : Prop where
  irr : ∀ x, ¬ c x x < 0
  asym : ∀ x y, c x y < 0 → ¬ c y x < 0
  trans : ∀ x y z, ¬ c y x < 0 → ¬ c z y < 0 → ¬ c z x < 0
/-- ahead, ties by the place -/
def Ah (c : α → α → Int) (p q : α × Nat) : Prop := c p.1 q.1 < 0 ∨ (¬ c q.1 p.1 < 0 ∧ p.2 < q.2)
theorem Ah.trans {c : α → α → Int} (C : Cmp c) {p q r : α × Nat} (h : Ah c p q) (k : Ah c q r) : Ah c p r := by
  have tr : ∀ x y z, c x y < 0 → ¬ c z y < 0 → c x z < 0 := fun x y z h1 h2 => by
    by_cases h3 : c x z < 0
    · exact h3
    · exact absurd h1 (C.trans y z x h2 h3)
  have tr2 : ∀ x y z, ¬ c y x < 0 → c y z < 0 → c x z < 0 := fun x y z h1 h2 => by
    by_cases h3 : c x z < 0
    · exact h3
    · exact absurd h2 (C.trans z x y h3 h1)
  rcases h with h | ⟨h1, h2⟩
  · rcases k with k | ⟨k1, k2⟩
    · exact .inl (tr _ _ _ h (C.asym _ _ k))
    · exact .inl (tr _ _ _ h k1)
  · rcases k with k | ⟨k1, k2⟩
    · exact .inl (tr2 _ _ _ h1 k)
    · by_cases h3 : c p.1 r.1 < 0
      · exact .inl h3
      · exact .inr ⟨C.trans _ _ _ h1 k1, Nat.lt_trans h2 k2⟩
theorem Ah.irr {c : α → α → Int} (C : Cmp c) (p : α × Nat) : ¬ Ah c p p := by
  rintro (h | ⟨_, h⟩)
  · exact C.irr _ h
  · exact Nat.lt_irrefl _ h
theorem Ah.total {c : α → α → Int} (C : Cmp c) {p q : α × Nat} (h : p.2 ≠ q.2) : Ah c p q ∨ Ah c q p := by
  by_cases h1 : c p.1 q.1 < 0
  · exact .inl (.inl h1)
  · by_cases h2 : c q.1 p.1 < 0
    · exact .inr (.inl h2)
    · rcases Nat.lt_or_gt_of_ne h with h3 | h3
      · exact .inl (.inr ⟨h2, h3⟩)
      · exact .inr (.inr ⟨h1, h3⟩)
/-- q came behind p: q is ahead of p just if it compares less -/
theorem Ah.of_right {c : α → α → Int} (C : Cmp c) {p q : α × Nat} (h : p.2 < q.2) : Ah c q p ↔ c q.1 p.1 < 0 := by
  constructor
  · rintro (h1 | ⟨_, h1⟩)
    · exact h1
    · omega
  · exact fun h1 => .inl h1
theorem Ah.of_left {c : α → α → Int} (C : Cmp c) {p q : α × Nat} (h : p.2 < q.2) : Ah c p q ↔ ¬ c q.1 p.1 < 0 := by
  constructor
  · rintro (h1 | ⟨h1, _⟩)
    · exact C.asym _ _ h1
    · exact h1
  · intro h1
    by_cases h2 : c p.1 q.1 < 0
    · exact .inl h2
    · exact .inr ⟨h1, h⟩
def UpS (c : α → α → Int) (l : List (α × Nat)) : Prop := l.Pairwise (Ah c)
/-- all of l came ahead of all of m -/
def Came (l m : List (α × Nat)) : Prop := ∀ p ∈ l, ∀ q ∈ m, p.2 < q.2
theorem UpS.get {c : α → α → Int} {l : List (α × Nat)} (h : UpS c l) {i j : Nat} (hij : i < j) (hj : j < l.length) : Ah c (l[i]'(by omega)) l[j] := List.pairwise_iff_getElem.1 h i j (by omega) hj hij
/-- two halves of two rows, cut where they cross -/
theorem cut_up {c : α → α → Int} (C : Cmp c) {L R : List (α × Nat)} (hL : UpS c L) (hR : UpS c R) (i j : Nat) (hi : i ≤ L.length) (hj : j ≤ R.length)
    (h1 : ∀ (h : 0 < i) (k : j < R.length), Ah c (L[i - 1]'(by omega)) R[j]) (h2 : ∀ (h : i < L.length) (k : 0 < j), Ah c (R[j - 1]'(by omega)) L[i]) :
    (∀ p ∈ L.take i ++ R.take j, ∀ q ∈ L.drop i ++ R.drop j, Ah c p q) := by
  have le : ∀ (l : List (α × Nat)), UpS c l → ∀ (a b : Nat) (ha : a ≤ b) (hb : b < l.length), a = b ∨ Ah c (l[a]'(by omega)) l[b] := fun l hl a b ha hb => by
    rcases Nat.lt_or_eq_of_le ha with h | h
    · exact .inr (hl.get h hb)
    · exact .inl h
  intro p hp q hq
  rcases List.mem_append.1 hp with hp | hp
  · obtain ⟨a, ha, rfl⟩ := List.getElem_of_mem hp
    rw [List.length_take] at ha
    rw [List.getElem_take]
    rcases List.mem_append.1 hq with hq | hq
    · obtain ⟨b, hb, rfl⟩ := List.getElem_of_mem hq
      rw [List.length_drop] at hb
      rw [List.getElem_drop]
      exact hL.get (by omega) (by omega)
    · obtain ⟨b, hb, rfl⟩ := List.getElem_of_mem hq
      rw [List.length_drop] at hb
      rw [List.getElem_drop]
      have hx := h1 (by omega) (by omega)
      have hy : Ah c (L[a]'(by omega)) (R[j]'(by omega)) := by
        rcases le L hL a (i - 1) (by omega) (by omega) with e | e
        · have : L[a]'(by omega) = L[i - 1]'(by omega) := by congr 1
          rw [this]; exact hx
        · exact e.trans C hx
      rcases le R hR j (j + b) (by omega) (by omega) with e | e
      · have : R[j]'(by omega) = R[j + b]'(by omega) := by congr 1
        rw [← this]; exact hy
      · exact hy.trans C e
  · obtain ⟨a, ha, rfl⟩ := List.getElem_of_mem hp
    rw [List.length_take] at ha
    rw [List.getElem_take]
    rcases List.mem_append.1 hq with hq | hq
    · obtain ⟨b, hb, rfl⟩ := List.getElem_of_mem hq
      rw [List.length_drop] at hb
      rw [List.getElem_drop]
      have hx := h2 (by omega) (by omega)
      have hy : Ah c (R[a]'(by omega)) (L[i]'(by omega)) := by
        rcases le R hR a (j - 1) (by omega) (by omega) with e | e
        · have : R[a]'(by omega) = R[j - 1]'(by omega) := by congr 1
          rw [this]; exact hx
        · exact e.trans C hx
      rcases le L hL i (i + b) (by omega) (by omega) with e | e
      · have : L[i]'(by omega) = L[i + b]'(by omega) := by congr 1
        rw [← this]; exact hy
      · exact hy.trans C e
    · obtain ⟨b, hb, rfl⟩ := List.getElem_of_mem hq
      rw [List.length_drop] at hb
      rw [List.getElem_drop]
      exact hR.get (by omega) (by omega)
theorem UpS.app {c : α → α → Int} {l m : List (α × Nat)} (hl : UpS c l) (hm : UpS c m) (h : ∀ p ∈ l, ∀ q ∈ m, Ah c p q) : UpS c (l ++ m) := List.pairwise_append.2 ⟨hl, hm, h⟩
theorem UpS.left {c : α → α → Int} {l m : List (α × Nat)} (h : UpS c (l ++ m)) : UpS c l := (List.pairwise_append.1 h).1
theorem UpS.right {c : α → α → Int} {l m : List (α × Nat)} (h : UpS c (l ++ m)) : UpS c m := (List.pairwise_append.1 h).2.1
/-- of one set of things there is one row that rises -/
theorem UpS.one {c : α → α → Int} (C : Cmp c) : ∀ {l m : List (α × Nat)}, UpS c l → UpS c m → l.Perm m → l = m
  | [], m, _, _, h => by rw [List.nil_perm.1 h]
  | x :: l, [], _, _, h => by have := h.length_eq; simp at this
  | x :: l, y :: m, hl, hm, h => by
    obtain ⟨h1, h2⟩ := List.pairwise_cons.1 hl
    obtain ⟨k1, k2⟩ := List.pairwise_cons.1 hm
    have hxy : x = y := by
      rcases List.mem_cons.1 (h.mem_iff.1 (List.mem_cons_self (a := x))) with e | e
      · exact e
      · rcases List.mem_cons.1 (h.mem_iff.2 (List.mem_cons_self (a := y))) with e' | e'
        · exact e'.symm
        · exact absurd ((k1 x e).trans C (h1 y e')) (Ah.irr C y)
    subst hxy
    rw [UpS.one C h2 k2 ((List.perm_cons x).1 h)]
theorem UpS.ins {c : α → α → Int} {S1 S2 : List (α × Nat)} {x : α × Nat} (h : UpS c (S1 ++ S2)) (h1 : ∀ p ∈ S1, Ah c p x) (h2 : ∀ q ∈ S2, Ah c x q) : UpS c (S1 ++ x :: S2) :=
  List.pairwise_append.2 ⟨h.left, List.pairwise_cons.2 ⟨h2, h.right⟩, fun p hp q hq => by
    rcases List.mem_cons.1 hq with rfl | hq
    · exact h1 p hp
    · exact (List.pairwise_append.1 h).2.2 p hp q hq⟩
theorem UpS.lead {c : α → α → Int} (C : Cmp c) {S0 : List (α × Nat)} {x y : α × Nat} (h : UpS c (S0 ++ [y])) (hy : Ah c y x) : ∀ p ∈ S0 ++ [y], Ah c p x := fun p hp => by
  rcases List.mem_append.1 hp with hp | hp
  · exact ((List.pairwise_append.1 h).2.2 p hp y (by simp)).trans C hy
  · rw [List.mem_singleton.1 hp]; exact hy
theorem ins_perm {β : Type} (S1 S2 T : List β) (x : β) : (S1 ++ x :: S2 ++ T).Perm ((S1 ++ S2) ++ x :: T) := by
  have h1 : (S1 ++ x :: S2 ++ T).Perm (x :: (S1 ++ S2 ++ T)) := by rw [List.append_assoc, List.cons_append, List.append_assoc]; exact List.perm_middle
  exact h1.trans List.perm_middle.symm
theorem ins_round {c : α → α → Int} {S S1 S2 T X : List (α × Nat)} {x : α × Nat} (hS : S1 ++ S2 = S) (hp : (S ++ x :: T).Perm X) (hu : UpS c S) (hc : ∀ p ∈ S, ∀ q ∈ x :: T, p.2 < q.2) (hr : (x :: T).Pairwise fun p q => p.2 < q.2)
    (h1 : ∀ p ∈ S1, Ah c p x) (h2 : ∀ q ∈ S2, Ah c x q) :
    (S1 ++ x :: S2 ++ T).Perm X ∧ UpS c (S1 ++ x :: S2) ∧ (∀ p ∈ S1 ++ x :: S2, ∀ q ∈ T, p.2 < q.2) ∧ (T.Pairwise fun p q => p.2 < q.2) := by
  subst hS
  refine ⟨(ins_perm S1 S2 T x).trans hp, hu.ins h1 h2, fun p hp' q hq => ?_, (List.pairwise_cons.1 hr).2⟩
  rcases List.mem_append.1 hp' with h | h
  · exact hc p (List.mem_append_left _ h) q (List.mem_cons_of_mem _ hq)
  · rcases List.mem_cons.1 h with rfl | h
    · exact (List.pairwise_cons.1 hr).1 q hq
    · exact hc p (List.mem_append_right _ h) q (List.mem_cons_of_mem _ hq)
theorem UpS.put {c : α → α → Int} (C : Cmp c) {R : List (α × Nat)} {x : α × Nat} (h : UpS c R) (k : Nat) (hkR : k ≤ R.length) (h1 : ∀ z, 0 < k → R[k - 1]? = some z → Ah c z x) (h2 : ∀ z, R[k]? = some z → Ah c x z) : UpS c (R.take k ++ x :: R.drop k) := by
  refine UpS.ins (by rw [List.take_append_drop]; exact h) (fun p hp => ?_) (fun q hq => ?_)
  · obtain ⟨t, ht, rfl⟩ := List.getElem_of_mem hp
    rw [List.length_take] at ht
    rw [List.getElem_take]
    have hk : k - 1 < R.length ∨ R.length ≤ k - 1 := by omega
    rcases Nat.lt_or_ge t (k - 1) with h3 | h3
    · exact (h.get h3 (by omega)).trans C (h1 _ (by omega) (List.getElem?_eq_getElem (by omega)))
    · have e : t = k - 1 := by omega
      exact h1 _ (by omega) (by rw [← e]; exact List.getElem?_eq_getElem (by omega))
  · obtain ⟨t, ht, rfl⟩ := List.getElem_of_mem hq
    rw [List.length_drop] at ht
    rw [List.getElem_drop]
    have hk := h2 _ (List.getElem?_eq_getElem (by omega))
    rcases Nat.eq_zero_or_pos t with rfl | h3
    · exact hk
    · exact hk.trans C (h.get (by omega) (by omega))
theorem put_perm {β : Type} (R : List β) (x : β) (k : Nat) : (R.take k ++ x :: R.drop k).Perm (x :: R) := by
  have := List.perm_middle (a := x) (l₁ := R.take k) (l₂ := R.drop k)
  rwa [List.take_append_drop] at this
end
end Sw

/- A region that draws its order, its tail forced: the head by the quiet walk (guards and rows' loads too). Over any program. -/
set_option linter.unusedVariables false
set_option linter.unusedSimpArgs false
namespace Sw
open Go
theorem still_of_quietL {P : Program} {ops : Array Oper} {W : World} {Q : Act → Prop} : ∀ (l : List Oper) (a : Act), wpQuiet P ops (fun w' => ∃ _ : Unit, w' = W) Q l a → wpStill P ops W Q l a
  | [], a, h => h
  | o :: l, a, h => by
    simp only [wpQuiet, wpStill] at *
    split
    · rename_i hw
      rw [if_pos hw] at h
      obtain ⟨v, h1, h2⟩ := h
      have h3 := h1 W ⟨(), rfl⟩
      have h4 := still_of_quietL l _ h2
      unfold Oper.quietAt at h3
      unfold Oper.still
      generalize (execOp a.eval o).run P W = r at *
      cases r with
      | ok n w' =>
        cases n <;> simp only [Oper.quietUpon] at h3 <;> simp only [Oper.stillUpon]
        case value u => exact ⟨h3.1, by rw [h3.2]; exact h4⟩
        case skip => exact ⟨h3.1, by rw [← h3.2]; exact h4⟩
        case enter f args => exact ⟨h3.1, v, h3.2.mono fun e w'' he => ⟨he.1, by obtain ⟨_, h⟩ := he.2; exact h⟩, h4⟩
      | halt x w' => simp only [Oper.quietUpon] at h3
    · rename_i hw
      rw [if_neg hw] at h
      exact still_of_quietL l _ h
theorem region_tail {P : Program} {id : Nat} {Q : Exit → Act → World → Prop} {a : Act} {w : World} {l : List Oper} (n : Nat) (hm : P.follows .mixedOrders = true) (hB : Region.lexTailB .any l.toArray n = true) (W : World) (hW : w.drew = W)
    (h : wpQuiet P l.toArray (fun w' => ∃ _ : Unit, w' = W) (fun a' => wpList P l.toArray Q (l.drop n) a' W) (l.take n) a) : (Code.region id l.toArray true).wp P Q a w := by
  subst hW
  exact wp_region_still_tail n hm hB (still_of_quietL _ _ h)
end Sw
