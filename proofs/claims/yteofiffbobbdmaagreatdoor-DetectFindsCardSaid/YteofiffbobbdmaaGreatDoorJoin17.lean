/- Several texts, joined for the limit of sixty files; each one opens with its own comment. -/
import Derived.Test.YteofiffbobbdmaaGreatDoorJoin10
import Derived.Test.YteofiffbobbdmaaGreatDoorJoin16
import Derived.Lib.AppendZeros
import Derived.Test.YteofiffbobbdmaaGreatDoorJoin15
import Derived.Test.YteofiffbobbdmaaGreatDoorJoin9
/- append(out, l...): the source any slice that reads as a list, nil let in. Over any program. -/
set_option linter.unusedVariables false
set_option linter.unusedSimpArgs false
namespace Sw
open Go Go.RowKit
section
variable {P : Program}
theorem run_app_nilc (w : World) (base : Nat) (t ty e : TypeId) (i : TypeInfo) (size : Nat) (ht : P.underlying t = some (.slice e)) (hi : P.info? e = some i) (v : Value) (n : Nat) (xs : List Value) (hown : w.ownsRow base e size v n xs) (c : Nat) :
    (Builtin.append_ #[t, t] ty #[v, .slice none 0 c]).run P w = .ok v w := by
  obtain ⟨A, k, rfl, hnk, _, _⟩ := SlV_of_any hown
  cases A <;> simp [Builtin.append_, run_underlying ht, Builtin.lenOf, Builtin.firstCells, Go.sizeOf, typeInfo, hi, hnk, Go.loadCells, Go.storeCells]
/-- 'append(s, x...)': s the call's own row, x any slice that reads as the list l -/
theorem wpList_app_slv {w : World} {ops : Array Oper} {rest : List Oper} {o : Oper} {a : Act} {Q : Exit → Act → World → Prop} (hgd : o.guard = none) (s x : Operand) (t : TypeId)
    (ho : o.op = .call { callee := .builtin .append, args := #[s, x], argTypes := #[t, t] })
    (base : Nat) (e : TypeId) (z : Value) (size bytes : Nat) (ht : P.underlying t = some (.slice e)) (hi : (P.info? e).map (fun i => (i.zero, i.size, i.bytes)) = some (some z, size, bytes)) (hzs : z.cells.size = size) (hsz : 0 < size)
    (v : Value) (n : Nat) (xs : List Value) (hs : a.eval s = v) (hown : w.ownsRow base e size v n xs)
    {α : Type} (E : α → List Value) (hE : ∀ y, (E y).length = size) (hE1 : ∀ y, ∀ u ∈ E y, u.oneCell' = true) (u : Value) (l : List α) (hx : a.eval x = u) (hu : SlV w size E u l)
    (hn : n + l.length ≤ 1000000) (hby : bytes ≤ 1000000) (hbase : base ≤ w.heap.size)
    (h : ∀ v' w', w'.ownsRow base e size v' (n + l.length) (xs ++ l.flatMap E) → w.grownBy w' v.ownBlock → wpList P ops Q rest (a.put o.dst v') w') : wpList P ops Q (o :: rest) a w := by
  obtain ⟨i, hi0, hz, hs2, hb⟩ := info_parts hi
  obtain ⟨A, c, rfl, hc1, hc2, hsl⟩ := hu
  cases A with
  | none =>
    have h0 : l = [] := by
      cases l with
      | nil => rfl
      | cons y l => obtain ⟨b, off, h, _⟩ := hsl (by simp); cases h
    subst h0
    have hrun := run_app_nilc w base t o.type e i size ht hi0 v n xs hown c
    refine wpList_plain hgd fun K hK => ?_
    unfold Oper.wp
    simp only [List.length_nil] at hx
    simp [execOp, ho, resolve, invoke, builtin, hs, hx, hrun, Result.andThen]
    exact hK _ _ (h v w (by simpa using hown) (grown_refl _ _))
  | some ad =>
    have hlen : (l.flatMap E).length = l.length * size := flat_len hE l
    refine wpList_append_own (w := w) hgd s x t ho base e i z size bytes ht hi0 hz hs2 hb hzs hsz v n xs hs hown ad l.length c (l.flatMap E) hx hlen ?_ ?_ (by unfold maxLen; omega) ?_ hbase (fun v' w' h1 h2 _ => h v' w' h1 h2)
    · intro j q hj
      have hjl := (List.getElem?_eq_some_iff.1 hj).1
      rw [hlen] at hjl
      have hpos : 0 < l.length := by
        rcases Nat.eq_zero_or_pos l.length with h0 | h0
        · rw [h0] at hjl; omega
        · exact h0
      obtain ⟨b, off, hA, _, hcs⟩ := hsl hpos
      rw [Option.some.inj hA, add_mk]
      have hq : j / size < l.length := Nat.div_lt_of_lt_mul (by rw [Nat.mul_comm]; exact hjl)
      have hr : j % size < size := Nat.mod_lt _ hsz
      have hd : j / size * size + j % size = j := by rw [Nat.mul_comm]; exact Nat.div_add_mod j size
      have h1 := flat_get hE l (j / size) hq (j % size) hr
      rw [hd, hj] at h1
      have h2 := hcs (j / size) hq (j % size) hr
      rw [Nat.add_assoc, hd] at h2
      rw [h2, ← h1]
    · intro q hq
      rw [List.mem_flatMap] at hq
      obtain ⟨y, _, hy⟩ := hq
      exact hE1 y q hy
    · calc (n + l.length) * bytes ≤ 1000000 * 1000000 := Nat.mul_le_mul hn hby
        _ ≤ 140737488355328 := by decide
end
end Sw
/- slices.Concat of two rows of marks. -/
set_option linter.unusedVariables false
set_option linter.unusedSimpArgs false
namespace Go.Proofs.YteofiffbobbdmaaGreatDoor
open Go Go.RowKit
open Sw
/-- a mark's cells -/
def eCM (m : ByteArray × Pr) : List Value := [.string m.1, .int .i64 m.2.kind, .int .i64 m.2.mode, .int .u32 m.2.time, .int .i64 m.2.size, .int .u32 m.2.sum]
theorem eCM_len (m : ByteArray × Pr) : (eCM m).length = 6 := rfl
theorem eCM_one (m : ByteArray × Pr) : ∀ u ∈ eCM m, u.oneCell' = true := fun u hu => by
  simp only [eCM, List.mem_cons, List.not_mem_nil, or_false] at hu
  rcases hu with rfl | rfl | rfl | rfl | rfl | rfl <;> rfl
theorem infoMk : (Tryz.prog.info? 91).map (fun i => (i.zero, i.size, i.bytes)) = some (some (.agg #[.string ⟨#[]⟩, .int .i64 0, .int .i64 0, .int .u32 0, .int .i64 0, .int .u32 0]), 6, 56) := by kernel_rfl
set_option maxRecDepth 100000 in
set_option maxHeartbeats 2000000 in
theorem growM_any (w : World) (n : Nat) (hn : n ≤ 1000000) :
    Calls Tryz.prog 106 #[.slice none 0 0, .int .i64 n] w fun e w' => ∃ u, e = .returned u ∧ w'.ownsRow w.heap.size 91 6 u 0 [] ∧ Below w.heap.size w w' := by
  have hw0 : IntKind.i64.wrap ((n : Int) - 0) = n := by rw [IntWalk.i64_in _ (by omega)]; omega
  by_cases h0 : n = 0
  · subst h0
    go_enter Tryz.func106, Tryz.ntmps106
    go_wp2_with fail
    go_ret
    exact ⟨_, rfl, World.ownsRow_nil _ _ _ _, Below.refl _ _⟩
  · have hp : (0 : Int) < n := by omega
    obtain ⟨i, hi, hz, hs2, hb⟩ := info_parts infoMk
    obtain ⟨G, hG⟩ : ∃ G, grownCap w n 0 91 = G := ⟨_, rfl⟩
    have hGn : n ≤ G := by rw [← hG]; exact grownCap_ge w _ _ _
    have hG63 : G ≤ maxLen := by rw [← hG]; exact grownCap_le_maxLen w n 0 91 (by unfold maxLen; omega)
    obtain ⟨R, hR⟩ : ∃ R : Array Value, Builtin.zeroCells (Value.cells (.agg #[.string ⟨#[]⟩, .int .i64 0, .int .i64 0, .int .u32 0, .int .i64 0, .int .u32 0])) n ++ Builtin.zeroCells (Value.cells (.agg #[.string ⟨#[]⟩, .int .i64 0, .int .i64 0, .int .u32 0, .int .i64 0, .int .u32 0])) (G - n) = R := ⟨_, rfl⟩
    have hRl : R.size = G * 6 := by
      rw [← hR]
      simp only [Array.size_append, size_zeroCells]
      simp [Value.cells]
      omega
    obtain ⟨W0, hW0⟩ : ∃ W0, w.drew.alloc (.cells R 91) = W0 := ⟨_, rfl⟩
    have hrz : ∀ ty, (Builtin.append_ #[22, 3] ty #[.slice none 0 0, .int .i64 (n : Int)]).run Tryz.prog w = .ok (.slice (some ⟨w.heap.size, 0, none⟩) n G) W0 := fun ty => by
      have h := Lib.run_append_nil_zeros w 22 3 ty 91 i _ .i64 .i64 Tryz.underlying22 Tryz.underlying3 hi hz n (by omega) (by omega) (by omega) (by rw [hb]; omega)
      rw [h, hG, hR, hW0]
    have HF := Lib.hid (show W0.ownsRow w.heap.size 91 6 (.slice (some ⟨w.heap.size, 0, none⟩) 0 G) 0 [] ∧ Below w.heap.size w W0 from by
      rw [← hW0]
      exact ⟨own_mk (Nat.le_refl _) (Blk.new w.drew _ _) (Nat.zero_le _) hG63 (by rw [hRl]) (by simp), ((Below.refl _ w).drew).alloc (Nat.le_refl _) _⟩)
    have hG0 : (0 : Int) ≤ G := by omega
    clear hRl hR hW0 hG hi hz hs2 hb hG63
    go_enter Tryz.func106, Tryz.ntmps106
    go_wp2_with (at_builtin; refine Lib.wpList_append_run _ rfl _ _ _ _ rfl _ _ rfl rfl _ _ (hrz _) ?_)
    go_ret
    exact ⟨_, rfl, HF.out.1, HF.out.2⟩
set_option maxRecDepth 100000 in
set_option maxHeartbeats 8000000 in
theorem concatM_any (w : World) (g : Nat) (tg : TypeId) (u1 u2 : Value) (l1 l2 : List (ByteArray × Pr)) (hg : Blk w g tg #[u1, u2]) (h1 : SlV w 6 eCM u1 l1) (h2 : SlV w 6 eCM u2 l2) (hl1 : l1.length ≤ 100000) (hl2 : l2.length ≤ 100000) :
    Calls Tryz.prog 72 #[.slice (some ⟨g, 0, none⟩) 2 2] w fun e w' => ∃ u, e = .returned u ∧ w'.ownsRow w.heap.size 91 6 u (l1 ++ l2).length ((l1 ++ l2).flatMap eCM) ∧ Below w.heap.size w w' := by
  have c0 := hg.cell 0
  have c1 := hg.cell 1
  simp at c0 c1
  have HG := Lib.hid (growM_any w (l1.length + l2.length) (by omega))
  have H0 := Lib.hid (And.intro hg (And.intro h1 h2))
  obtain ⟨A1, k1, rfl, _, _, _⟩ := h1
  obtain ⟨A2, k2, rfl, _, _, _⟩ := h2
  obtain ⟨n1, hn1⟩ : ∃ n1, l1.length = n1 := ⟨_, rfl⟩
  obtain ⟨n2, hn2⟩ : ∃ n2, l2.length = n2 := ⟨_, rfl⟩
  have HL := Lib.hid (And.intro hn1 hn2)
  rw [hn1] at HG H0 c0 hl1
  rw [hn2] at HG H0 c1 hl2
  have w1 : IntKind.i64.wrap ((n1 : Int)) = n1 := IntWalk.i64_in _ (by omega)
  have w2 : IntKind.i64.wrap ((n1 : Int) + (n2 : Int)) = ((n1 + n2 : Nat) : Int) := by rw [IntWalk.i64_in _ (by omega)]; omega
  have p1 : ¬ (n1 : Int) < 0 := by omega
  have p2 : ¬ ((n1 + n2 : Nat) : Int) < 0 := by omega
  clear hg hn1 hn2
  go_enter Tryz.func72, Tryz.ntmps72
  go_wp2_with fail
  go_loopw [3, 11] (fun s iv wr => wr = w ∧ ((iv = .int .i64 0 ∧ s = .int .i64 0) ∨ (iv = .int .i64 1 ∧ s = .int .i64 n1) ∨ (iv = .int .i64 2 ∧ s = .int .i64 ((n1 + n2 : Nat) : Int)))) (fun _ iv _ => 2 - (intOf iv).toNat)
  case atStart => exact ⟨rfl, .inl ⟨rfl, rfl⟩⟩
  case round =>
    obtain ⟨hw, h3⟩ := hrel
    rw [hw]
    clear hw
    rcases h3 with ⟨rfl, rfl⟩ | ⟨rfl, rfl⟩ | ⟨rfl, rfl⟩
    · go_wp2_with fail
      go_roundw
      case rel => exact ⟨trivial, .inr (.inl ⟨by go_num, rfl⟩)⟩
      case measure => simp [intOf]
    · go_wp2_with fail
      go_roundw
      case rel => exact ⟨trivial, .inr (.inr ⟨by go_num, rfl⟩)⟩
      case measure => simp [intOf]
    · go_wp2_with fail
      refine HG.out.mono ?_
      rintro e w3 ⟨u, rfl, ho3, hb3⟩
      obtain ⟨A3, k3, rfl, _, _, _⟩ := SlV_of_any ho3
      have H3 := Lib.hid (And.intro ho3 hb3); clear ho3 hb3 HG
      clear wr
      go_wp2_with fail
      go_loopw [6, 27] (fun o iv wr => Below w.heap.size w wr ∧ ((iv = .int .i64 0 ∧ wr.ownsRow w.heap.size 91 6 o 0 []) ∨ (iv = .int .i64 1 ∧ wr.ownsRow w.heap.size 91 6 o (0 + l1.length) ([] ++ l1.flatMap eCM)) ∨ (iv = .int .i64 2 ∧ wr.ownsRow w.heap.size 91 6 o (0 + l1.length + l2.length) ([] ++ l1.flatMap eCM ++ l2.flatMap eCM)))) (fun _ iv _ => 2 - (intOf iv).toNat)
      case atStart => exact ⟨H3.out.2, .inl ⟨rfl, H3.out.1⟩⟩
      case round =>
      obtain ⟨hb, (⟨rfl, ho⟩ | ⟨rfl, ho⟩ | ⟨rfl, ho⟩)⟩ := hrel
      all_goals have hbs := hb.size
      · have e0 := (H0.out.1.below hb H0.out.1.lt).cell 0
        simp at e0
        have hs := H0.out.2.1.below hb (Nat.le_refl _)
        obtain ⟨A4, k4, rfl, _, _, _⟩ := SlV_of_any ho
        have H4 := Lib.hid (And.intro ho (And.intro hb hs)); clear ho hs hb
        go_wp2_with (at_builtin; refine wpList_app_slv rfl _ _ 22 rfl w.heap.size 91 (.agg #[.string ⟨#[]⟩, .int .i64 0, .int .i64 0, .int .u32 0, .int .i64 0, .int .u32 0]) 6 56 Tryz.underlying22 infoMk rfl (by decide) _ 0 _ rfl H4.out.1 eCM eCM_len eCM_one _ l1 rfl H4.out.2.2 (by have := HL.out; omega) (by decide) hbs ?_; intro v5 w5 ho5 hg5)
        obtain ⟨A5, k5, rfl, _, _, _⟩ := SlV_of_any ho5
        have H5 := Lib.hid (And.intro ho5 (H4.out.2.1.grown hg5 hbs (fun q hq => (H4.out.1.lt q hq).1))); clear ho5 hg5
        go_wp2_with fail
        go_roundw
        case rel => exact ⟨H5.out.2, .inr (.inl ⟨by go_num, H5.out.1⟩)⟩
        case measure => simp [intOf]
      · have e0 := (H0.out.1.below hb H0.out.1.lt).cell 1
        simp at e0
        have hs := H0.out.2.2.below hb (Nat.le_refl _)
        obtain ⟨A4, k4, rfl, _, _, _⟩ := SlV_of_any ho
        have H4 := Lib.hid (And.intro ho (And.intro hb hs)); clear ho hs hb
        go_wp2_with (at_builtin; refine wpList_app_slv rfl _ _ 22 rfl w.heap.size 91 (.agg #[.string ⟨#[]⟩, .int .i64 0, .int .i64 0, .int .u32 0, .int .i64 0, .int .u32 0]) 6 56 Tryz.underlying22 infoMk rfl (by decide) _ (0 + l1.length) _ rfl H4.out.1 eCM eCM_len eCM_one _ l2 rfl H4.out.2.2 (by have := HL.out; omega) (by decide) hbs ?_; intro v5 w5 ho5 hg5)
        obtain ⟨A5, k5, rfl, _, _, _⟩ := SlV_of_any ho5
        have H5 := Lib.hid (And.intro ho5 (H4.out.2.1.grown hg5 hbs (fun q hq => (H4.out.1.lt q hq).1))); clear ho5 hg5
        go_wp2_with fail
        go_roundw
        case rel => exact ⟨H5.out.2, .inr (.inr ⟨by go_num, H5.out.1⟩)⟩
        case measure => simp [intOf]
      · obtain ⟨A4, k4, rfl, _, _, _⟩ := SlV_of_any ho
        rw [HL.out.1, HL.out.2]
        have H4 := Lib.hid (And.intro ho hb); clear ho hb
        rw [HL.out.1, HL.out.2] at H4
        go_wp2_with fail
        go_ret
        have h9 : wr.ownsRow w.heap.size 91 6 (.slice A4 (0 + n1 + n2) k4) (l1 ++ l2).length ((l1 ++ l2).flatMap eCM) := by
          rw [List.length_append, List.flatMap_append, HL.out.1, HL.out.2]
          have := H4.out.1
          rw [List.nil_append] at this
          rw [Nat.zero_add] at this ⊢
          exact this
        exact ⟨_, rfl, h9, H4.out.2⟩
end Go.Proofs.YteofiffbobbdmaaGreatDoor
/- An argument that is a Base, opened. -/
set_option linter.unusedVariables false
namespace Go.Proofs.YteofiffbobbdmaaGreatDoor
open Go Go.ChangeShapes Go.WideShapes Go.ChangeAt Go.RowKit
open Sw
section
open Go.Deep
variable {H : Type} {enc : TypeId × Value → H} {P : Program} {w : World}
/-- A slice inside of what was read, by a decoder of its elements. -/
theorem slice_of_trodB {α : Type} (E : α → List Value) (V : α → Prop) {t e : TypeId} {fuel : Nat} {cs : List Value} {x : DataW H × List MemPlace} {size : Nat} (ht : P.underlying t = some (.slice e)) (hC : P.cellsOf e = size) (hs : 0 < size)
    (hdec : ∀ fuel cs x, DataW.trod enc P w 0 (fun _ => true) true fuel e cs = some x → ∃ a : α, cs = E a ∧ V a)
    (hf : DataW.trod enc P w 0 (fun _ => true) true fuel t cs = some x) :
    ∃ (A : Option Addr) (n c : Nat) (l : List α), cs = [.slice A n c] ∧ n ≤ c ∧ c ≤ maxLen ∧ l.length = n ∧ SlOf w size E A l ∧ (∀ a ∈ l, V a) := by
  rcases open_slice ht hf with ⟨h0, _⟩ | ⟨a, len, cap, m, k, D, Pl, hcs, hb, hl, hm, hmm, hx, hi⟩
  · exact ⟨none, 0, 0, [], h0, Nat.le_refl _, by simp [maxLen], rfl, SlOf.nil _ _ _ _, by simp⟩
  · rw [hC] at hi
    have hmc : m = cap := by simpa using hmm
    subst hmc
    obtain ⟨l, hlen, hq⟩ := exists_list (Q := fun i (x : α) => V x ∧ (E x).length = size ∧ ∀ j, j < size → w.cell? ((a.add (i * size)).add j) = (E x)[j]?) len (fun i hin => by
      obtain ⟨cs', hc, htr⟩ := hi i (by omega)
      obtain ⟨x, rfl, hx⟩ := hdec _ _ _ htr
      obtain ⟨_, hcl, hat⟩ := World.cells?_some hc
      exact ⟨x, hx, hcl, fun j hj => hat j hj⟩)
    refine ⟨some a, len, m, l, hcs, hl, hm, hlen, fun hn => ?_, fun x hx => ?_⟩
    · obtain ⟨_, hsz, hat⟩ := hq 0 hn
      have h0 := hat 0 hs
      rw [List.getElem?_eq_getElem (by omega)] at h0
      have hsp := World.cell?_spot h0
      have hlt := World.block_lt_of_cell? w _ h0
      rw [add_add, Nat.zero_mul, Nat.add_zero] at hsp hlt
      rw [show a.add 0 = a from rfl] at hsp hlt
      obtain ⟨b, off, spot⟩ := a
      have hsp' : spot = none := hsp
      subst hsp'
      refine ⟨b, off, rfl, hlt, fun i hi j hj => ?_⟩
      have h1 := (hq i hi).2.2 j hj
      rw [add_mk, add_mk] at h1
      exact h1
    · obtain ⟨i, hi', rfl⟩ := List.getElem_of_mem hx
      exact (hq i hi').1
end
/-- a mark that came in -/
def MkIn (m : ByteArray × Pr) : Prop := m.1.size ≤ maxLen ∧ m.2.In
set_option maxRecDepth 100000 in
theorem dec_mark {H : Type} {enc : TypeId × Value → H} {w : World} (fuel : Nat) (cs : List Value) (x : DataW H × List MemPlace) (h : DataW.trod enc Tryz.prog w 0 (fun _ => true) true fuel 91 cs = some x) :
    ∃ e : ByteArray × Pr, cs = eCM e ∧ MkIn e := by
  obtain ⟨y0, y1, n, _, hl, h0, h1⟩ := trod_struct2 Tryz.underlying91 h
  have hl6 : cs.length = 6 := hl.trans (by kernel_rfl)
  match cs, hl6 with
  | [c0, c1, c2, c3, c4, c5], _ =>
    rw [show Tryz.prog.cellsOf 9 = 1 by kernel_rfl] at h0
    rw [show Tryz.prog.cellsOf 75 = 5 by kernel_rfl] at h1
    simp only [List.drop_zero, List.drop_succ_cons, List.take_succ_cons, List.take_zero] at h0 h1
    obtain ⟨s, hs, _, hsz⟩ := DataW.trod_string Tryz.underlying9 h0
    simp at hs
    subst hs
    obtain ⟨m, hm, hin⟩ := dec_print _ _ _ h1
    simp [Pr.c] at hm
    obtain ⟨rfl, rfl, rfl, rfl, rfl⟩ := hm
    exact ⟨(s, m), rfl, hsz, hin⟩
set_option maxRecDepth 100000 in
theorem open_base {H : Type} {enc : TypeId × Value → H} {w : World} {r : Reach} {b0 : Nat} {v : Value} {d : DataW H} {p : List MemPlace} (hv : Value.okWide Tryz.prog w r b0 24 v) (h : DataW.Trod enc Tryz.prog w 0 (fun _ => true) true 24 v d p) :
    ∃ (u1 u2 : Value) (l1 l2 : List (ByteArray × Pr)), v = .agg #[u1, u2] ∧ SlV w 6 eCM u1 l1 ∧ SlV w 6 eCM u2 l2 ∧ (∀ m ∈ l1, MkIn m) ∧ ∀ m ∈ l2, MkIn m := by
  obtain ⟨cs, rfl, hsz⟩ := okWide_struct Tryz.underlying24 hv
  obtain ⟨fuel, hf⟩ := h
  obtain ⟨y0, y1, n, _, hl, h0, h1⟩ := trod_struct2 Tryz.underlying24 hf
  have hl2 : cs.toList.length = 2 := hl.trans (by kernel_rfl)
  obtain ⟨c0, c1, hcs⟩ : ∃ c0 c1, cs.toList = [c0, c1] := by
    match hq : cs.toList, hl2 with
    | [c0, c1], _ => exact ⟨c0, c1, rfl⟩
  rw [show (Value.agg cs).cells.toList = [c0, c1] from hcs] at h0 h1
  rw [show Tryz.prog.cellsOf 22 = 1 by kernel_rfl] at h0 h1
  simp only [List.drop_zero, List.drop_succ_cons, List.take_succ_cons, List.take_zero] at h0 h1
  obtain ⟨A1, m1, k1, l1, e1, q1, q2, q3, q4, q5⟩ := slice_of_trodB (size := 6) eCM MkIn Tryz.underlying22 (by kernel_rfl) (by decide) dec_mark h0
  obtain ⟨A2, m2, k2, l2, e2, p1, p2, p3, p4, p5⟩ := slice_of_trodB (size := 6) eCM MkIn Tryz.underlying22 (by kernel_rfl) (by decide) dec_mark h1
  simp at e1 e2
  subst e1 e2 q3 p3
  exact ⟨_, _, l1, l2, by congr 1; exact Array.ext' hcs, ⟨A1, k1, rfl, q1, q2, q4⟩, ⟨A2, k2, rfl, p1, p2, p4⟩, q5, p5⟩
end Go.Proofs.YteofiffbobbdmaaGreatDoor
/- XDosRef with names that do not clash with the name texts (made from it by sed). -/
set_option linter.unusedVariables false
namespace Go.Proofs.YteofiffbobbdmaaGreatDoor
open Go.RowKit
open Sw
set_option maxHeartbeats 1000000 in
theorem refDosDays_any (w : World) (y m : Int) (h0 : -9223372036854775808 ≤ y) (h1 : y ≤ 9223372036854775807) :
    Calls Tryz.prog 178 #[.int .i64 y, .int .i64 m] w fun e w' => e = .returned (.int .i64 (daysI y m)) ∧ w = w' := by
  by_cases hy : y < 1980
  · have hd : daysI y m = 0 := by unfold daysI; rw [if_pos (.inl hy)]
    rw [hd]
    go_enter Tryz.func178, Tryz.ntmps178
    go_wp2_with fail
    go_ret
    exact ⟨rfl, rfl⟩
  by_cases hy2 : 2107 < y
  · have hd : daysI y m = 0 := by unfold daysI; rw [if_pos (.inr (.inl hy2))]
    rw [hd]
    go_enter Tryz.func178, Tryz.ntmps178
    go_wp2_with fail
    go_ret
    exact ⟨rfl, rfl⟩
  have HD := Lib.hid (fun (hm : ¬ (m < 1 ∨ 12 < m)) => show daysI y m = (if m = 2 then (if leapI y = true then 29 else 28) else if m = 4 ∨ m = 6 ∨ m = 9 ∨ m = 11 then 30 else 31) by
    unfold daysI
    rw [if_neg (by omega)])
  have hm : m = 1 ∨ m = 3 ∨ m = 4 ∨ m = 5 ∨ m = 6 ∨ m = 7 ∨ m = 8 ∨ m = 9 ∨ m = 10 ∨ m = 11 ∨ m = 12 ∨ m = 2 ∨ m < 1 ∨ 12 < m := by omega
  rcases hm with rfl | rfl | rfl | rfl | rfl | rfl | rfl | rfl | rfl | rfl | rfl | hm
  case inr.inr.inr.inr.inr.inr.inr.inr.inr.inr.inr =>
    rcases hm with rfl | hm
    · have e4 : (y.tmod 4 == 0) = decide (y % 4 = 0) := by
        rw [Bool.eq_iff_iff, beq_iff_eq, decide_eq_true_iff, ← Int.dvd_iff_tmod_eq_zero, ← Int.dvd_iff_emod_eq_zero]
      have hd : daysI y 2 = if leapI y = true then 29 else 28 := by
        unfold daysI
        rw [if_neg (by omega), if_pos rfl]
      unfold leapI at hd
      by_cases h4 : y % 4 = 0
      · have ht : (y.tmod 4 == 0) = true := by rw [e4]; simpa using h4
        by_cases h5 : y = 2100
        · have hn : (y != 2100) = false := by simp [h5]
          have hd' : daysI y 2 = 28 := by rw [hd]; simp [h5]
          rw [hd']
          clear hd hd' e4 h5
          go_enter Tryz.func178, Tryz.ntmps178
          go_wp2_with fail
          go_ret
          exact ⟨rfl, rfl⟩
        · have hn : (y != 2100) = true := by simp [h5]
          have hd' : daysI y 2 = 29 := by rw [hd]; simp [h5, h4]
          rw [hd']
          clear hd hd' e4
          go_enter Tryz.func178, Tryz.ntmps178
          go_wp2_with fail
          go_ret
          exact ⟨rfl, rfl⟩
      · have ht : (y.tmod 4 == 0) = false := by rw [e4]; simpa using h4
        have hd' : daysI y 2 = 28 := by rw [hd]; simp [h4]
        rw [hd']
        clear hd hd' e4
        go_enter Tryz.func178, Tryz.ntmps178
        go_wp2_with fail
        go_ret
        exact ⟨rfl, rfl⟩
    · have hd : daysI y m = 0 := by unfold daysI; rw [if_pos (.inr (.inr hm))]
      rw [hd]
      have t1 : (m == 1) = false := by rw [beq_eq_false_iff_ne]; omega
      have t2 : (m == 2) = false := by rw [beq_eq_false_iff_ne]; omega
      have t3 : (m == 3) = false := by rw [beq_eq_false_iff_ne]; omega
      have t4 : (m == 4) = false := by rw [beq_eq_false_iff_ne]; omega
      have t5 : (m == 5) = false := by rw [beq_eq_false_iff_ne]; omega
      have t6 : (m == 6) = false := by rw [beq_eq_false_iff_ne]; omega
      have t7 : (m == 7) = false := by rw [beq_eq_false_iff_ne]; omega
      have t8 : (m == 8) = false := by rw [beq_eq_false_iff_ne]; omega
      have t9 : (m == 9) = false := by rw [beq_eq_false_iff_ne]; omega
      have t10 : (m == 10) = false := by rw [beq_eq_false_iff_ne]; omega
      have t11 : (m == 11) = false := by rw [beq_eq_false_iff_ne]; omega
      have t12 : (m == 12) = false := by rw [beq_eq_false_iff_ne]; omega
      clear hd hm
      go_enter Tryz.func178, Tryz.ntmps178
      go_wp2_with fail
      go_ret
      exact ⟨rfl, rfl⟩
  all_goals
    have hd := HD.out (by omega)
    simp at hd
    rw [hd]
    clear hd HD
    go_enter Tryz.func178, Tryz.ntmps178
    go_wp2_with fail
    go_ret
    exact ⟨rfl, rfl⟩
theorem refDosSplit_any (w : World) (t : Int) (h0 : 0 ≤ t) (h1 : t < 4294967296) :
    Calls Tryz.prog 160 #[.int .u32 t] w fun e w' => e = .returned (.agg (Dt.v (splitD t))) ∧ Below w.heap.size w w' := by
  go_enter Tryz.func160, Tryz.ntmps160
  have hrow : Dt.v (splitD t) = #[Value.int IntKind.i64 (1980 + t / 32 / 64 / 32 / 32 / 16), Value.int IntKind.i64 (t / 32 / 64 / 32 / 32 % 16), Value.int IntKind.i64 (t / 32 / 64 / 32 % 32), Value.int IntKind.i64 (t / 32 / 64 % 32), Value.int IntKind.i64 (t / 32 % 64), Value.int IntKind.i64 (2 * (t % 32))] := by
    have e1 : t / 32 / 64 / 32 / 32 / 16 = t / 33554432 := by omega
    have e2 : t / 32 / 64 / 32 / 32 = t / 2097152 := by omega
    have e3 : t / 32 / 64 / 32 = t / 65536 := by omega
    have e4 : t / 32 / 64 = t / 2048 := by omega
    rw [e1, e2, e3, e4]; rfl
  rw [hrow]
  have HROW := Lib.hid hrow; clear hrow
  go_wp2_with fail
  refine bodyPost_ret (results_cell_row rfl _ _ w.heap.size 213 _ (0, 0) _ rfl ((Blk.new w _ _).alloc _) Tryz.underlying213 rfl (by kernel_rfl)) rfl ⟨rfl, ((Below.refl w.heap.size w).alloc (Nat.le_refl _) _).alloc (by simp) _⟩
set_option maxRecDepth 100000 in
set_option maxHeartbeats 40000000 in
theorem refDosRight_any (w : World) (x : Dt) (hx : Dt.In x) :
    Calls Tryz.prog 159 #[.agg (Dt.v x)] w fun e w' => e = .returned (.bool (decide x.Ok)) ∧ Below w.heap.size w w' := by
  have hT : TimeAt w w.heap.size 213 x (w.alloc (Obj.cells (Dt.v x) 213)) := ⟨Blk.new _ _ _, (Below.refl _ _).alloc (Nat.le_refl _) _⟩
  have HTD := Lib.hid (show TimeAt w w.heap.size 213 x (w.alloc (Obj.cells (Dt.v x) 213)).drew from ⟨hT.1, hT.2.drew⟩)
  have hD := fun W => refDosDays_any W x.y x.m hx.y0 hx.y1
  have hdl := daysI_le x.y x.m
  have hOk : x.Ok = (1 ≤ x.d ∧ x.d ≤ daysI x.y x.m ∧ 0 ≤ x.h ∧ x.h < 24 ∧ 0 ≤ x.mi ∧ x.mi < 60 ∧ 0 ≤ x.s ∧ x.s < 60 ∧ x.s % 2 = 0) := rfl
  generalize hdy : daysI x.y x.m = dy at *
  have HD := Lib.hid hD; clear hD
  have HOK := Lib.hid hOk; clear hOk
  have hm2 : (x.s.tmod 2 == 0) = decide (x.s % 2 = 0) := by rw [Bool.eq_iff_iff, beq_iff_eq, decide_eq_true_iff, ← Int.dvd_iff_tmod_eq_zero, ← Int.dvd_iff_emod_eq_zero]
  have HM2 := Lib.hid hm2; clear hm2
  clear hT hdy
  have q0 : ∀ n : Held (TimeAt w w.heap.size 213 x), (HeldW n).cell? ⟨w.heap.size, 0, none⟩ = some (.int .i64 x.y) := fun n => (HeldW_spec n).1.cell 0
  have q1 : ∀ n : Held (TimeAt w w.heap.size 213 x), (HeldW n).cell? ⟨w.heap.size, 1, none⟩ = some (.int .i64 x.m) := fun n => (HeldW_spec n).1.cell 1
  have q2 : ∀ n : Held (TimeAt w w.heap.size 213 x), (HeldW n).cell? ⟨w.heap.size, 2, none⟩ = some (.int .i64 x.d) := fun n => (HeldW_spec n).1.cell 2
  have q3 : ∀ n : Held (TimeAt w w.heap.size 213 x), (HeldW n).cell? ⟨w.heap.size, 3, none⟩ = some (.int .i64 x.h) := fun n => (HeldW_spec n).1.cell 3
  have q4 : ∀ n : Held (TimeAt w w.heap.size 213 x), (HeldW n).cell? ⟨w.heap.size, 4, none⟩ = some (.int .i64 x.mi) := fun n => (HeldW_spec n).1.cell 4
  have q5 : ∀ n : Held (TimeAt w w.heap.size 213 x), (HeldW n).cell? ⟨w.heap.size, 5, none⟩ = some (.int .i64 x.s) := fun n => (HeldW_spec n).1.cell 5
  haveI : Nonempty (Held (TimeAt w w.heap.size 213 x)) := held_some HTD.out
  obtain ⟨y0, y1, m0, m1, d0, d1, hh0, hh1, i0, i1, s0, s1⟩ := hx
  by_cases c0 : 1 ≤ x.d
  · skip
    by_cases c1 : x.d ≤ dy
    · skip
      by_cases c2 : 0 ≤ x.h
      · skip
        by_cases c3 : x.h ≤ 23
        · skip
          by_cases c4 : 0 ≤ x.mi
          · skip
            by_cases c5 : x.mi ≤ 59
            · skip
              by_cases c6 : 0 ≤ x.s
              · skip
                by_cases c7 : x.s ≤ 58
                · skip
                  by_cases c8 : x.s % 2 = 0
                  · skip
                    have t2 : (x.s.tmod 2 == 0) = true := by rw [HM2.out]; exact decide_eq_true c8
                    have HR := Lib.hid (show decide x.Ok = true by rw [decide_eq_true_iff, HOK.out]; omega)
                    go_enter Tryz.func159, Tryz.ntmps159
                    go_wp2_with fail
                    refine wp_region_class (TimeAt w w.heap.size 213 x) (by kernel_rfl) (by kernel_rfl) HTD.out ?_
                    repeat (go_big_quiet_step (with_reducible exact held_same (HD.out _)))
                    refine wpQuiet_nil ?_
                    rintro _ ⟨n, rfl⟩
                    go_wp2_with fail
                    go_ret
                    rw [HR.out]
                    exact ⟨by first | (simp; done) | (simp; omega), (HeldW_spec n).2⟩
                  · skip
                    have t2 : (x.s.tmod 2 == 0) = false := by rw [HM2.out]; exact decide_eq_false c8
                    have HR := Lib.hid (show decide x.Ok = false by rw [decide_eq_false_iff_not, HOK.out]; omega)
                    go_enter Tryz.func159, Tryz.ntmps159
                    go_wp2_with fail
                    refine wp_region_class (TimeAt w w.heap.size 213 x) (by kernel_rfl) (by kernel_rfl) HTD.out ?_
                    repeat (go_big_quiet_step (with_reducible exact held_same (HD.out _)))
                    refine wpQuiet_nil ?_
                    rintro _ ⟨n, rfl⟩
                    go_wp2_with fail
                    go_ret
                    rw [HR.out]
                    exact ⟨by first | (simp; done) | (simp; omega), (HeldW_spec n).2⟩
                · skip
                  have t7f : decide (x.s ≤ 58) = false := decide_eq_false c7
                  have HR := Lib.hid (show decide x.Ok = false by rw [decide_eq_false_iff_not, HOK.out]; omega)
                  go_enter Tryz.func159, Tryz.ntmps159
                  go_wp2_with fail
                  refine wp_region_class (TimeAt w w.heap.size 213 x) (by kernel_rfl) (by kernel_rfl) HTD.out ?_
                  repeat (go_big_quiet_step (with_reducible exact held_same (HD.out _)))
                  refine wpQuiet_nil ?_
                  rintro _ ⟨n, rfl⟩
                  go_wp2_with fail
                  go_ret
                  rw [HR.out]
                  exact ⟨by first | (simp; done) | (simp; omega), (HeldW_spec n).2⟩
              · skip
                have t6f : decide (0 ≤ x.s) = false := decide_eq_false c6
                have HR := Lib.hid (show decide x.Ok = false by rw [decide_eq_false_iff_not, HOK.out]; omega)
                go_enter Tryz.func159, Tryz.ntmps159
                go_wp2_with fail
                refine wp_region_class (TimeAt w w.heap.size 213 x) (by kernel_rfl) (by kernel_rfl) HTD.out ?_
                repeat (go_big_quiet_step (with_reducible exact held_same (HD.out _)))
                refine wpQuiet_nil ?_
                rintro _ ⟨n, rfl⟩
                go_wp2_with fail
                go_ret
                rw [HR.out]
                exact ⟨by first | (simp; done) | (simp; omega), (HeldW_spec n).2⟩
            · skip
              have t5f : decide (x.mi ≤ 59) = false := decide_eq_false c5
              have HR := Lib.hid (show decide x.Ok = false by rw [decide_eq_false_iff_not, HOK.out]; omega)
              go_enter Tryz.func159, Tryz.ntmps159
              go_wp2_with fail
              refine wp_region_class (TimeAt w w.heap.size 213 x) (by kernel_rfl) (by kernel_rfl) HTD.out ?_
              repeat (go_big_quiet_step (with_reducible exact held_same (HD.out _)))
              refine wpQuiet_nil ?_
              rintro _ ⟨n, rfl⟩
              go_wp2_with fail
              go_ret
              rw [HR.out]
              exact ⟨by first | (simp; done) | (simp; omega), (HeldW_spec n).2⟩
          · skip
            have t4f : decide (0 ≤ x.mi) = false := decide_eq_false c4
            have HR := Lib.hid (show decide x.Ok = false by rw [decide_eq_false_iff_not, HOK.out]; omega)
            go_enter Tryz.func159, Tryz.ntmps159
            go_wp2_with fail
            refine wp_region_class (TimeAt w w.heap.size 213 x) (by kernel_rfl) (by kernel_rfl) HTD.out ?_
            repeat (go_big_quiet_step (with_reducible exact held_same (HD.out _)))
            refine wpQuiet_nil ?_
            rintro _ ⟨n, rfl⟩
            go_wp2_with fail
            go_ret
            rw [HR.out]
            exact ⟨by first | (simp; done) | (simp; omega), (HeldW_spec n).2⟩
        · skip
          have t3f : decide (x.h ≤ 23) = false := decide_eq_false c3
          have HR := Lib.hid (show decide x.Ok = false by rw [decide_eq_false_iff_not, HOK.out]; omega)
          go_enter Tryz.func159, Tryz.ntmps159
          go_wp2_with fail
          refine wp_region_class (TimeAt w w.heap.size 213 x) (by kernel_rfl) (by kernel_rfl) HTD.out ?_
          repeat (go_big_quiet_step (with_reducible exact held_same (HD.out _)))
          refine wpQuiet_nil ?_
          rintro _ ⟨n, rfl⟩
          go_wp2_with fail
          go_ret
          rw [HR.out]
          exact ⟨by first | (simp; done) | (simp; omega), (HeldW_spec n).2⟩
      · skip
        have t2f : decide (0 ≤ x.h) = false := decide_eq_false c2
        have HR := Lib.hid (show decide x.Ok = false by rw [decide_eq_false_iff_not, HOK.out]; omega)
        go_enter Tryz.func159, Tryz.ntmps159
        go_wp2_with fail
        refine wp_region_class (TimeAt w w.heap.size 213 x) (by kernel_rfl) (by kernel_rfl) HTD.out ?_
        repeat (go_big_quiet_step (with_reducible exact held_same (HD.out _)))
        refine wpQuiet_nil ?_
        rintro _ ⟨n, rfl⟩
        go_wp2_with fail
        go_ret
        rw [HR.out]
        exact ⟨by first | (simp; done) | (simp; omega), (HeldW_spec n).2⟩
    · skip
      have t1f : decide (x.d ≤ dy) = false := decide_eq_false c1
      have HR := Lib.hid (show decide x.Ok = false by rw [decide_eq_false_iff_not, HOK.out]; omega)
      go_enter Tryz.func159, Tryz.ntmps159
      go_wp2_with fail
      refine wp_region_class (TimeAt w w.heap.size 213 x) (by kernel_rfl) (by kernel_rfl) HTD.out ?_
      repeat (go_big_quiet_step (with_reducible exact held_same (HD.out _)))
      refine wpQuiet_nil ?_
      rintro _ ⟨n, rfl⟩
      go_wp2_with fail
      go_ret
      rw [HR.out]
      exact ⟨by first | (simp; done) | (simp; omega), (HeldW_spec n).2⟩
  · skip
    have t0f : decide (1 ≤ x.d) = false := decide_eq_false c0
    have HR := Lib.hid (show decide x.Ok = false by rw [decide_eq_false_iff_not, HOK.out]; omega)
    go_enter Tryz.func159, Tryz.ntmps159
    go_wp2_with fail
    refine wp_region_class (TimeAt w w.heap.size 213 x) (by kernel_rfl) (by kernel_rfl) HTD.out ?_
    repeat (go_big_quiet_step (with_reducible exact held_same (HD.out _)))
    refine wpQuiet_nil ?_
    rintro _ ⟨n, rfl⟩
    go_wp2_with fail
    go_ret
    rw [HR.out]
    exact ⟨by first | (simp; done) | (simp; omega), (HeldW_spec n).2⟩
end Go.Proofs.YteofiffbobbdmaaGreatDoor
/- The reference's Right of nodes (at a node that is one). -/
set_option linter.unusedVariables false
set_option linter.unusedSimpArgs false
namespace Go.Proofs.YteofiffbobbdmaaGreatDoor
open Go Go.RowKit
open Sw
theorem refTime_any (w : World) (t : Int) (h0 : 0 ≤ t) (h1 : t < 4294967296) :
    Calls Tryz.prog 125 #[.int .u32 t] w fun e w' => e = .returned (.bool (decide (splitD t).Ok)) ∧ Below w.heap.size w w' := by
  have H1 := Lib.hid (refDosSplit_any w t h0 h1)
  have H2 := Lib.hid (fun W => refDosRight_any W (splitD t) (splitD_in t h0 h1))
  go_enter Tryz.func125, Tryz.ntmps125
  go_wp2_with fail
  refine H1.out.mono ?_
  rintro _ w1 ⟨rfl, hb1⟩
  have HB1 := Lib.hid hb1; clear hb1
  go_wp2_with fail
  refine (H2.out _).mono ?_
  rintro _ w2 ⟨rfl, hb2⟩
  have HB2 := Lib.hid (HB1.out.trans (hb2.mono HB1.out.size)); clear hb2
  go_wp2_with fail
  go_ret
  exact ⟨rfl, HB2.out⟩
set_option maxRecDepth 100000 in
set_option maxHeartbeats 4000000 in
theorem ref14Right_any (w : World) (n : Nd) (hk : ¬ n.kind = 0) (ht0 : 0 ≤ n.time) (ht1 : n.time < 4294967296) (hd : n.data.size ≤ maxLen) :
    Calls Tryz.prog 126 #[.agg n.c] w fun e w' => e = .returned (.int .i64 (nodeR n)) ∧ Below w.heap.size w w' := by
  obtain ⟨kd, md, tm, dt⟩ := n
  simp only at hk ht0 ht1 hd
  unfold maxLen at hd
  have hb0 := (Below.refl w.heap.size w).alloc (Nat.le_refl _) (.cells #[.int .i64 kd, .int .i64 md, .int .u32 tm, .string dt] 51)
  have hB0 := Blk.new w 51 #[.int .i64 kd, .int .i64 md, .int .u32 tm, .string dt]
  have H0 := Lib.hid (And.intro hb0 hB0); clear hb0 hB0
  have e0 : (kd == 0) = false := by rw [beq_eq_false_iff_ne]; exact hk
  unfold Nd.c
  have hR : nodeR ⟨kd, md, tm, dt⟩ = if ¬ kd = 1 ∧ ¬ kd = 2 then 8 else if kd = 2 ∧ (¬ dt.data.toList = [] ∨ ¬ tm = 0) then 1 else if ¬ (0 ≤ md ∧ md ≤ 511) then 12 else if kd = 1 ∧ ¬ (splitD tm).Ok then 13 else if (65000 : Int) < dt.size then 4 else 0 := by
    unfold nodeR
    simp [hk]
  rw [hR]
  clear hR
  by_cases h1 : kd = 1
  · subst h1
    rw [if_neg (by omega), if_neg (by omega)]
    have HD := Lib.hid (fun W => refTime_any W tm ht0 ht1)
    by_cases hm0 : 0 ≤ md
    · by_cases hm1 : md ≤ 511
      · rw [if_neg (fun h => h ⟨hm0, hm1⟩)]
        by_cases hk2 : (splitD tm).Ok
        · rw [decide_eq_true hk2] at HD
          rw [if_neg (fun h => h.2 hk2)]
          clear hk hk2
          by_cases hs : (65000 : Int) < dt.size
          all_goals
            first | rw [if_pos hs] | rw [if_neg hs]
            go_enter Tryz.func126, Tryz.ntmps126
            go_wp2_with fail
            refine (HD.out _).mono ?_
            rintro e w2 ⟨rfl, hb2⟩
            have x3 := (H0.out.2.below hb2 H0.out.2.lt).cell 3
            simp at x3
            have HF := Lib.hid (H0.out.1.trans (hb2.mono H0.out.1.size)); clear hb2
            go_wp2_with fail
            go_ret
            exact ⟨rfl, HF.out⟩
        · rw [decide_eq_false hk2] at HD
          rw [if_pos ⟨rfl, hk2⟩]
          clear hk hk2
          go_enter Tryz.func126, Tryz.ntmps126
          go_wp2_with fail
          refine (HD.out _).mono ?_
          rintro e w2 ⟨rfl, hb2⟩
          have HF := Lib.hid (H0.out.1.trans (hb2.mono H0.out.1.size)); clear hb2
          go_wp2_with fail
          go_ret
          exact ⟨rfl, HF.out⟩
      · rw [if_pos (fun h => hm1 h.2)]
        go_enter Tryz.func126, Tryz.ntmps126
        go_wp2_with fail
        go_ret
        exact ⟨rfl, H0.out.1⟩
    · rw [if_pos (fun h => hm0 h.1)]
      go_enter Tryz.func126, Tryz.ntmps126
      go_wp2_with fail
      go_ret
      exact ⟨rfl, H0.out.1⟩
  · have e1 : (kd == 1) = false := by rw [beq_eq_false_iff_ne]; exact h1
    by_cases h2 : kd = 2
    · subst h2
      rw [if_neg (by omega)]
      by_cases hx : dt.data.toList = []
      · by_cases hy : tm = 0
        · subst hy
          rw [if_neg (by rintro ⟨_, h⟩; rcases h with h | h <;> simp_all)]
          have hdz : dt = ⟨#[]⟩ := by cases dt with | mk d => cases d with | mk l => simp at hx; subst hx; rfl
          subst hdz
          clear hk h1 e1 hx
          by_cases hm0 : 0 ≤ md
          · by_cases hm1 : md ≤ 511
            · rw [if_neg (fun h => h ⟨hm0, hm1⟩)]
              rw [if_neg (by omega), if_neg (by decide)]
              go_enter Tryz.func126, Tryz.ntmps126
              go_wp2_with fail
              go_ret
              exact ⟨rfl, H0.out.1⟩
            · rw [if_pos (fun h => hm1 h.2)]
              go_enter Tryz.func126, Tryz.ntmps126
              go_wp2_with fail
              go_ret
              exact ⟨rfl, H0.out.1⟩
          · rw [if_pos (fun h => hm0 h.1)]
            go_enter Tryz.func126, Tryz.ntmps126
            go_wp2_with fail
            go_ret
            exact ⟨rfl, H0.out.1⟩
        · rw [if_pos ⟨rfl, .inr hy⟩]
          have hdz : dt = ⟨#[]⟩ := by cases dt with | mk d => cases d with | mk l => simp at hx; subst hx; rfl
          subst hdz
          have t0 : (tm == 0) = false := by rw [beq_eq_false_iff_ne]; exact hy
          have t1 : (tm != 0) = true := by rw [bne_iff_ne]; exact hy
          clear hk h1 e1 hx hy
          go_enter Tryz.func126, Tryz.ntmps126
          go_wp2_with fail
          go_ret
          exact ⟨rfl, H0.out.1⟩
      · rw [if_pos ⟨rfl, .inl hx⟩]
        have s0 : dt.data.toList.isEmpty = false := by cases hl : dt.data.toList with | nil => exact absurd hl hx | cons a l => rfl
        have s1 : (!dt.data.toList.isEmpty) = true := by rw [s0]; rfl
        have s2 : (dt.data.toList == []) = false := by rw [beq_eq_false_iff_ne]; exact hx
        have s3 : dt.toList.isEmpty = false := by rw [ByteArray.toList_eq]; exact s0
        clear hk h1 e1 hx
        go_enter Tryz.func126, Tryz.ntmps126
        go_wp2_with fail
        go_ret
        exact ⟨rfl, H0.out.1⟩
    · rw [if_pos ⟨h1, h2⟩]
      have e2 : (kd == 2) = false := by rw [beq_eq_false_iff_ne]; exact h2
      by_cases hn : kd < 0
      · clear hk h1 h2 e0 e1 e2
        go_enter Tryz.func126, Tryz.ntmps126
        go_wp2_with fail
        go_ret
        exact ⟨rfl, H0.out.1⟩
      · have hn2 : (2 : Int) < kd := by omega
        clear hk h1 h2 e0 e1 e2
        go_enter Tryz.func126, Tryz.ntmps126
        go_wp2_with fail
        go_ret
        exact ⟨rfl, H0.out.1⟩
end Go.Proofs.YteofiffbobbdmaaGreatDoor
