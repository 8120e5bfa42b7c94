/- Several texts, joined for the limit of sixty files; each one opens with its own comment. -/
import Derived.Test.YtnpehjgnplaabaaGreatDoorJoin9
import Derived.Test.YtnpehjgnplaabaaGreatDoorJoin14
import Derived.Lib.AppendZeros
import Derived.Test.YtnpehjgnplaabaaGreatDoorJoin13
import Derived.Test.YtnpehjgnplaabaaGreatDoorJoin12
import Derived.StillTailTactics
import Derived.Test.YtnpehjgnplaabaaGreatDoorJoin7
import Derived.Test.YtnpehjgnplaabaaGreatDoorChecked
import Derived.Test.YtnpehjgnplaabaaGreatDoorJoin5
import Derived.RegionTactic
import Derived.BigRegion
import Derived.Deep.RegionLaw
/- Several texts, joined for the limit of sixty files; each one opens with its own comment. -/
/- append(out, l...): the source any slice that reads as a list, nil let in. Over any program. -/
set_option linter.unusedVariables false
set_option linter.unusedSimpArgs false
namespace Sw
open Go Go.RowKit
section
variable {P : Program}
theorem run_app_nilc (w : World) (base : Nat) (t ty e : TypeId) (i : TypeInfo) (size : Nat) (ht : P.underlying t = some (.slice e)) (hi : P.info? e = some i) (v : Value) (n : Nat) (xs : List Value) (hown : w.ownsRow base e size v n xs) (c : Nat) :
    (Builtin.append_ #[t, t] ty #[v, .slice none 0 c]).run P w = .ok v w := by
  obtain ⟨A, k, rfl, hnk, _, _⟩ := SlV_of_any hown
  cases A <;> simp [Builtin.append_, run_underlying ht, Builtin.lenOf, Builtin.firstCells, Go.sizeOf, typeInfo, hi, hnk, Go.loadCells, Go.storeCells]
/-- 'append(s, x...)': s the call's own row, x any slice that reads as the list l -/
theorem wpList_app_slv {w : World} {ops : Array Oper} {rest : List Oper} {o : Oper} {a : Act} {Q : Exit → Act → World → Prop} (hgd : o.guard = none) (s x : Operand) (t : TypeId)
    (ho : o.op = .call { callee := .builtin .append, args := #[s, x], argTypes := #[t, t] })
    (base : Nat) (e : TypeId) (z : Value) (size bytes : Nat) (ht : P.underlying t = some (.slice e)) (hi : (P.info? e).map (fun i => (i.zero, i.size, i.bytes)) = some (some z, size, bytes)) (hzs : z.cells.size = size) (hsz : 0 < size)
    (v : Value) (n : Nat) (xs : List Value) (hs : a.eval s = v) (hown : w.ownsRow base e size v n xs)
    {α : Type} (E : α → List Value) (hE : ∀ y, (E y).length = size) (hE1 : ∀ y, ∀ u ∈ E y, u.oneCell' = true) (u : Value) (l : List α) (hx : a.eval x = u) (hu : SlV w size E u l)
    (hn : n + l.length ≤ 1000000) (hby : bytes ≤ 1000000) (hbase : base ≤ w.heap.size)
    (h : ∀ v' w', w'.ownsRow base e size v' (n + l.length) (xs ++ l.flatMap E) → w.grownBy w' v.ownBlock → wpList P ops Q rest (a.put o.dst v') w') : wpList P ops Q (o :: rest) a w := by
  obtain ⟨i, hi0, hz, hs2, hb⟩ := info_parts hi
  obtain ⟨A, c, rfl, hc1, hc2, hsl⟩ := hu
  cases A with
  | none =>
    have h0 : l = [] := by
      cases l with
      | nil => rfl
      | cons y l => obtain ⟨b, off, h, _⟩ := hsl (by simp); cases h
    subst h0
    have hrun := run_app_nilc w base t o.type e i size ht hi0 v n xs hown c
    refine wpList_plain hgd fun K hK => ?_
    unfold Oper.wp
    simp only [List.length_nil] at hx
    simp [execOp, ho, resolve, invoke, builtin, hs, hx, hrun, Result.andThen]
    exact hK _ _ (h v w (by simpa using hown) (grown_refl _ _))
  | some ad =>
    have hlen : (l.flatMap E).length = l.length * size := flat_len hE l
    refine wpList_append_own (w := w) hgd s x t ho base e i z size bytes ht hi0 hz hs2 hb hzs hsz v n xs hs hown ad l.length c (l.flatMap E) hx hlen ?_ ?_ (by unfold maxLen; omega) ?_ hbase (fun v' w' h1 h2 _ => h v' w' h1 h2)
    · intro j q hj
      have hjl := (List.getElem?_eq_some_iff.1 hj).1
      rw [hlen] at hjl
      have hpos : 0 < l.length := by
        rcases Nat.eq_zero_or_pos l.length with h0 | h0
        · rw [h0] at hjl; omega
        · exact h0
      obtain ⟨b, off, hA, _, hcs⟩ := hsl hpos
      rw [Option.some.inj hA, add_mk]
      have hq : j / size < l.length := Nat.div_lt_of_lt_mul (by rw [Nat.mul_comm]; exact hjl)
      have hr : j % size < size := Nat.mod_lt _ hsz
      have hd : j / size * size + j % size = j := by rw [Nat.mul_comm]; exact Nat.div_add_mod j size
      have h1 := flat_get hE l (j / size) hq (j % size) hr
      rw [hd, hj] at h1
      have h2 := hcs (j / size) hq (j % size) hr
      rw [Nat.add_assoc, hd] at h2
      rw [h2, ← h1]
    · intro q hq
      rw [List.mem_flatMap] at hq
      obtain ⟨y, _, hy⟩ := hq
      exact hE1 y q hy
    · calc (n + l.length) * bytes ≤ 1000000 * 1000000 := Nat.mul_le_mul hn hby
        _ ≤ 140737488355328 := by decide
end
end Sw
/- slices.Concat of two rows of marks. -/
set_option linter.unusedVariables false
set_option linter.unusedSimpArgs false
namespace Go.Proofs.YtnpehjgnplaabaaGreatDoor
open Go Go.RowKit
open Sw
/-- a mark's cells -/
def eCM (m : ByteArray × Pr) : List Value := [.string m.1, .int .i64 m.2.kind, .int .i64 m.2.mode, .int .u32 m.2.time, .int .i64 m.2.size, .int .u32 m.2.sum]
theorem eCM_len (m : ByteArray × Pr) : (eCM m).length = 6 := rfl
theorem eCM_one (m : ByteArray × Pr) : ∀ u ∈ eCM m, u.oneCell' = true := fun u hu => by
  simp only [eCM, List.mem_cons, List.not_mem_nil, or_false] at hu
  rcases hu with rfl | rfl | rfl | rfl | rfl | rfl <;> rfl
theorem infoMk : (Tryz.prog.info? 63).map (fun i => (i.zero, i.size, i.bytes)) = some (some (.agg #[.string ⟨#[]⟩, .int .i64 0, .int .i64 0, .int .u32 0, .int .i64 0, .int .u32 0]), 6, 56) := by kernel_rfl
set_option maxRecDepth 100000 in
set_option maxHeartbeats 2000000 in
theorem growM_any (w : World) (n : Nat) (hn : n ≤ 1000000) :
    Calls Tryz.prog 146 #[.slice none 0 0, .int .i64 n] w fun e w' => ∃ u, e = .returned u ∧ w'.ownsRow w.heap.size 63 6 u 0 [] ∧ Below w.heap.size w w' := by
  have hw0 : IntKind.i64.wrap ((n : Int) - 0) = n := by rw [IntWalk.i64_in _ (by omega)]; omega
  by_cases h0 : n = 0
  · subst h0
    go_enter Tryz.func146, Tryz.ntmps146
    go_wp2_with fail
    go_ret
    exact ⟨_, rfl, World.ownsRow_nil _ _ _ _, Below.refl _ _⟩
  · have hp : (0 : Int) < n := by omega
    obtain ⟨i, hi, hz, hs2, hb⟩ := info_parts infoMk
    obtain ⟨G, hG⟩ : ∃ G, grownCap w n 0 63 = G := ⟨_, rfl⟩
    have hGn : n ≤ G := by rw [← hG]; exact grownCap_ge w _ _ _
    have hG63 : G ≤ maxLen := by rw [← hG]; exact grownCap_le_maxLen w n 0 63 (by unfold maxLen; omega)
    obtain ⟨R, hR⟩ : ∃ R : Array Value, Builtin.zeroCells (Value.cells (.agg #[.string ⟨#[]⟩, .int .i64 0, .int .i64 0, .int .u32 0, .int .i64 0, .int .u32 0])) n ++ Builtin.zeroCells (Value.cells (.agg #[.string ⟨#[]⟩, .int .i64 0, .int .i64 0, .int .u32 0, .int .i64 0, .int .u32 0])) (G - n) = R := ⟨_, rfl⟩
    have hRl : R.size = G * 6 := by
      rw [← hR]
      simp only [Array.size_append, size_zeroCells]
      simp [Value.cells]
      omega
    obtain ⟨W0, hW0⟩ : ∃ W0, w.drew.alloc (.cells R 63) = W0 := ⟨_, rfl⟩
    have hrz : ∀ ty, (Builtin.append_ #[22, 3] ty #[.slice none 0 0, .int .i64 (n : Int)]).run Tryz.prog w = .ok (.slice (some ⟨w.heap.size, 0, none⟩) n G) W0 := fun ty => by
      have h := Lib.run_append_nil_zeros w 22 3 ty 63 i _ .i64 .i64 Tryz.underlying22 Tryz.underlying3 hi hz n (by omega) (by omega) (by omega) (by rw [hb]; omega)
      rw [h, hG, hR, hW0]
    have HF := Lib.hid (show W0.ownsRow w.heap.size 63 6 (.slice (some ⟨w.heap.size, 0, none⟩) 0 G) 0 [] ∧ Below w.heap.size w W0 from by
      rw [← hW0]
      exact ⟨own_mk (Nat.le_refl _) (Blk.new w.drew _ _) (Nat.zero_le _) hG63 (by rw [hRl]) (by simp), ((Below.refl _ w).drew).alloc (Nat.le_refl _) _⟩)
    have hG0 : (0 : Int) ≤ G := by omega
    clear hRl hR hW0 hG hi hz hs2 hb hG63
    go_enter Tryz.func146, Tryz.ntmps146
    go_wp2_with (at_builtin; refine Lib.wpList_append_run _ rfl _ _ _ _ rfl _ _ rfl rfl _ _ (hrz _) ?_)
    go_ret
    exact ⟨_, rfl, HF.out.1, HF.out.2⟩
set_option maxRecDepth 100000 in
set_option maxHeartbeats 8000000 in
theorem concatM_any (w : World) (g : Nat) (tg : TypeId) (u1 u2 : Value) (l1 l2 : List (ByteArray × Pr)) (hg : Blk w g tg #[u1, u2]) (h1 : SlV w 6 eCM u1 l1) (h2 : SlV w 6 eCM u2 l2) (hl1 : l1.length ≤ 100000) (hl2 : l2.length ≤ 100000) :
    Calls Tryz.prog 103 #[.slice (some ⟨g, 0, none⟩) 2 2] w fun e w' => ∃ u, e = .returned u ∧ w'.ownsRow w.heap.size 63 6 u (l1 ++ l2).length ((l1 ++ l2).flatMap eCM) ∧ Below w.heap.size w w' := by
  have c0 := hg.cell 0
  have c1 := hg.cell 1
  simp at c0 c1
  have HG := Lib.hid (growM_any w (l1.length + l2.length) (by omega))
  have H0 := Lib.hid (And.intro hg (And.intro h1 h2))
  obtain ⟨A1, k1, rfl, _, _, _⟩ := h1
  obtain ⟨A2, k2, rfl, _, _, _⟩ := h2
  obtain ⟨n1, hn1⟩ : ∃ n1, l1.length = n1 := ⟨_, rfl⟩
  obtain ⟨n2, hn2⟩ : ∃ n2, l2.length = n2 := ⟨_, rfl⟩
  have HL := Lib.hid (And.intro hn1 hn2)
  rw [hn1] at HG H0 c0 hl1
  rw [hn2] at HG H0 c1 hl2
  have w1 : IntKind.i64.wrap ((n1 : Int)) = n1 := IntWalk.i64_in _ (by omega)
  have w2 : IntKind.i64.wrap ((n1 : Int) + (n2 : Int)) = ((n1 + n2 : Nat) : Int) := by rw [IntWalk.i64_in _ (by omega)]; omega
  have p1 : ¬ (n1 : Int) < 0 := by omega
  have p2 : ¬ ((n1 + n2 : Nat) : Int) < 0 := by omega
  clear hg hn1 hn2
  go_enter Tryz.func103, Tryz.ntmps103
  go_wp2_with fail
  go_loopw [3, 11] (fun s iv wr => wr = w ∧ ((iv = .int .i64 0 ∧ s = .int .i64 0) ∨ (iv = .int .i64 1 ∧ s = .int .i64 n1) ∨ (iv = .int .i64 2 ∧ s = .int .i64 ((n1 + n2 : Nat) : Int)))) (fun _ iv _ => 2 - (intOf iv).toNat)
  case atStart => exact ⟨rfl, .inl ⟨rfl, rfl⟩⟩
  case round =>
    obtain ⟨hw, h3⟩ := hrel
    rw [hw]
    clear hw
    rcases h3 with ⟨rfl, rfl⟩ | ⟨rfl, rfl⟩ | ⟨rfl, rfl⟩
    · go_wp2_with fail
      go_roundw
      case rel => exact ⟨trivial, .inr (.inl ⟨by go_num, rfl⟩)⟩
      case measure => simp [intOf]
    · go_wp2_with fail
      go_roundw
      case rel => exact ⟨trivial, .inr (.inr ⟨by go_num, rfl⟩)⟩
      case measure => simp [intOf]
    · go_wp2_with fail
      refine HG.out.mono ?_
      rintro e w3 ⟨u, rfl, ho3, hb3⟩
      obtain ⟨A3, k3, rfl, _, _, _⟩ := SlV_of_any ho3
      have H3 := Lib.hid (And.intro ho3 hb3); clear ho3 hb3 HG
      clear wr
      go_wp2_with fail
      go_loopw [6, 27] (fun o iv wr => Below w.heap.size w wr ∧ ((iv = .int .i64 0 ∧ wr.ownsRow w.heap.size 63 6 o 0 []) ∨ (iv = .int .i64 1 ∧ wr.ownsRow w.heap.size 63 6 o (0 + l1.length) ([] ++ l1.flatMap eCM)) ∨ (iv = .int .i64 2 ∧ wr.ownsRow w.heap.size 63 6 o (0 + l1.length + l2.length) ([] ++ l1.flatMap eCM ++ l2.flatMap eCM)))) (fun _ iv _ => 2 - (intOf iv).toNat)
      case atStart => exact ⟨H3.out.2, .inl ⟨rfl, H3.out.1⟩⟩
      case round =>
      obtain ⟨hb, (⟨rfl, ho⟩ | ⟨rfl, ho⟩ | ⟨rfl, ho⟩)⟩ := hrel
      all_goals have hbs := hb.size
      · have e0 := (H0.out.1.below hb H0.out.1.lt).cell 0
        simp at e0
        have hs := H0.out.2.1.below hb (Nat.le_refl _)
        obtain ⟨A4, k4, rfl, _, _, _⟩ := SlV_of_any ho
        have H4 := Lib.hid (And.intro ho (And.intro hb hs)); clear ho hs hb
        go_wp2_with (at_builtin; refine wpList_app_slv rfl _ _ 22 rfl w.heap.size 63 (.agg #[.string ⟨#[]⟩, .int .i64 0, .int .i64 0, .int .u32 0, .int .i64 0, .int .u32 0]) 6 56 Tryz.underlying22 infoMk rfl (by decide) _ 0 _ rfl H4.out.1 eCM eCM_len eCM_one _ l1 rfl H4.out.2.2 (by have := HL.out; omega) (by decide) hbs ?_; intro v5 w5 ho5 hg5)
        obtain ⟨A5, k5, rfl, _, _, _⟩ := SlV_of_any ho5
        have H5 := Lib.hid (And.intro ho5 (H4.out.2.1.grown hg5 hbs (fun q hq => (H4.out.1.lt q hq).1))); clear ho5 hg5
        go_wp2_with fail
        go_roundw
        case rel => exact ⟨H5.out.2, .inr (.inl ⟨by go_num, H5.out.1⟩)⟩
        case measure => simp [intOf]
      · have e0 := (H0.out.1.below hb H0.out.1.lt).cell 1
        simp at e0
        have hs := H0.out.2.2.below hb (Nat.le_refl _)
        obtain ⟨A4, k4, rfl, _, _, _⟩ := SlV_of_any ho
        have H4 := Lib.hid (And.intro ho (And.intro hb hs)); clear ho hs hb
        go_wp2_with (at_builtin; refine wpList_app_slv rfl _ _ 22 rfl w.heap.size 63 (.agg #[.string ⟨#[]⟩, .int .i64 0, .int .i64 0, .int .u32 0, .int .i64 0, .int .u32 0]) 6 56 Tryz.underlying22 infoMk rfl (by decide) _ (0 + l1.length) _ rfl H4.out.1 eCM eCM_len eCM_one _ l2 rfl H4.out.2.2 (by have := HL.out; omega) (by decide) hbs ?_; intro v5 w5 ho5 hg5)
        obtain ⟨A5, k5, rfl, _, _, _⟩ := SlV_of_any ho5
        have H5 := Lib.hid (And.intro ho5 (H4.out.2.1.grown hg5 hbs (fun q hq => (H4.out.1.lt q hq).1))); clear ho5 hg5
        go_wp2_with fail
        go_roundw
        case rel => exact ⟨H5.out.2, .inr (.inr ⟨by go_num, H5.out.1⟩)⟩
        case measure => simp [intOf]
      · obtain ⟨A4, k4, rfl, _, _, _⟩ := SlV_of_any ho
        rw [HL.out.1, HL.out.2]
        have H4 := Lib.hid (And.intro ho hb); clear ho hb
        rw [HL.out.1, HL.out.2] at H4
        go_wp2_with fail
        go_ret
        have h9 : wr.ownsRow w.heap.size 63 6 (.slice A4 (0 + n1 + n2) k4) (l1 ++ l2).length ((l1 ++ l2).flatMap eCM) := by
          rw [List.length_append, List.flatMap_append, HL.out.1, HL.out.2]
          have := H4.out.1
          rw [List.nil_append] at this
          rw [Nat.zero_add] at this ⊢
          exact this
        exact ⟨_, rfl, h9, H4.out.2⟩
end Go.Proofs.YtnpehjgnplaabaaGreatDoor
/- An argument that is a Base, opened. -/
set_option linter.unusedVariables false
namespace Go.Proofs.YtnpehjgnplaabaaGreatDoor
open Go Go.ChangeShapes Go.WideShapes Go.ChangeAt Go.RowKit
open Sw
end Go.Proofs.YtnpehjgnplaabaaGreatDoor
/- tree.All. -/
set_option linter.unusedVariables false
set_option linter.unusedSimpArgs false
namespace Go.Proofs.YtnpehjgnplaabaaGreatDoor
open Go Go.RowKit
open Sw
set_option maxRecDepth 100000 in
theorem treeAll_any (w : World) (bt bm : Nat) (xs : List NE) (h : TreeAt w bt bm xs) :
    Calls Tryz.prog 41 #[.pointer (some ⟨bt, 0, none⟩)] w (SeqOfSN xs w) := by
  have HL := Lib.hid (srtAllSN_any w bm xs h.map)
  have c0 := h.box.cell 0
  simp at c0
  clear h
  go_enter Tryz.func41, Tryz.ntmps41
  go_wp2_with fail
  refine HL.out.mono ?_
  rintro e w1 ⟨gb, v, rfl, h1, h2, h3, h4, h5⟩
  have HF := Lib.hid (⟨gb, v, rfl, h1, h2, h3, h4, h5⟩ : SeqOfSN xs w (.returned (.func (.func 154) #[] #[.pointer (some ⟨gb, 0, none⟩)])) w1)
  clear h1 h2 h3 h4 h5 HL
  go_wp2_with fail
  go_ret
  exact HF.out
end Go.Proofs.YtnpehjgnplaabaaGreatDoor
/- tree.Bytes. -/
set_option linter.unusedVariables false
set_option linter.unusedSimpArgs false
namespace Go.Proofs.YtnpehjgnplaabaaGreatDoor
open Go Go.RowKit Go.Shelf
open Sw
attribute [local go_sem] Oper.semAt_some
/-- the bytes of the entries' data -/
def bytesT (xs : List NE) : Nat := (xs.map fun e => e.2.data.size).sum
def ByI (T M : Nat) (pre : List NE) (W : World) : Prop := Blk W T 3 #[.int .i64 (bytesT pre)] ∧ M ≤ W.heap.size
theorem ByI.own (T M : Nat) : Own (ByI T M) := fun _ A B row hs hg hr => ⟨blk_ownF hs.1 hg hr, Nat.le_trans hs.2 hg.size⟩
end Go.Proofs.YtnpehjgnplaabaaGreatDoor
/- The reference's rows of items: Without. -/
set_option linter.unusedVariables false
set_option linter.unusedSimpArgs false
namespace Go.Proofs.YtnpehjgnplaabaaGreatDoor
open Go Go.RowKit
open Sw
/-- an item is appended to a row of items -/
theorem OwnIt.app {w' : World} {base g cap n : Nat} {l : List NE} {x : NE} (h : w'.ownsRow base 59 5 (.slice (some ⟨g, 0, none⟩) (n + 1) cap) (n + 1) (l.flatMap eCSN ++ [.string x.1, .int .i64 x.2.kind, .int .i64 x.2.mode, .int .u32 x.2.time, .string x.2.data])) (hn : l.length = n) : OwnIt w' base (.slice (some ⟨g, 0, none⟩) (n + 1) cap) (l ++ [x]) := by
  unfold OwnIt
  rw [List.length_append, List.length_singleton, hn, List.flatMap_append]
  simpa [eCSN] using h
end Go.Proofs.YtnpehjgnplaabaaGreatDoor
/- tree.Items. -/
set_option linter.unusedVariables false
set_option linter.unusedSimpArgs false
namespace Go.Proofs.YtnpehjgnplaabaaGreatDoor
open Go Go.RowKit Go.Shelf
open Sw
attribute [local go_sem] Oper.semAt_some
/-- behind some words: the row in the box holds them, and the iterator lies as it lay -/
def ItI (T gb : Nat) (v : Value) (xs : List NE) (pre : List NE) (W : World) : Prop := gb < W.heap.size ∧ (∃ o, Blk W T 25 #[o] ∧ OwnIt W T o pre) ∧ Blk W gb 137 #[v] ∧ Lies W 146 5 eCSN v xs
theorem ItI.own (T gb : Nat) (v : Value) (xs : List NE) : Own (ItI T gb v xs) := fun _ A B row hs hg hr => ⟨Nat.lt_of_lt_of_le hs.1 hg.size, by obtain ⟨o, h1, h2⟩ := hs.2.1; exact ⟨o, blk_ownF h1 hg hr, own_ownF h2 hg hr⟩, blk_ownF hs.2.2.1 hg hr, hs.2.2.2.ownF hg hr⟩
theorem ItI.below {T gb : Nat} {v : Value} {xs pre : List NE} {A B : World} (hs : ItI T gb v xs pre A) (hb : Below A.heap.size A B) : ItI T gb v xs pre B := ⟨Nat.lt_of_lt_of_le hs.1 hb.size, by obtain ⟨o, h1, h2⟩ := hs.2.1; exact ⟨o, h1.below hb h1.lt, h2.below hb⟩, hs.2.2.1.below hb hs.2.2.1.lt, hs.2.2.2.below hb⟩
set_option maxRecDepth 100000 in
set_option maxHeartbeats 4000000 in
theorem treeItems_any (w : World) (bt bm : Nat) (xs : List NE) (h : TreeAt w bt bm xs) (hn : xs.length ≤ 1000) :
    Calls Tryz.prog 11 #[.pointer (some ⟨bt, 0, none⟩)] w fun e w' => ∃ r, e = .returned r ∧ OwnIt w' w.heap.size r xs ∧ Below w.heap.size w w' := by
  have b0 := Blk.new w 25 #[.slice none 0 0]
  have hB : Below w.heap.size w (w.alloc (.cells #[.slice none 0 0] 25)) := (Below.refl _ w).alloc (Nat.le_refl _) _
  have hT := h.below hB
  clear h
  refine callsIn_wide.1 (?_ : CallsIn Fence.wide 9 _ _ _ _ _)
  refine callsIn_of_wp_marks Tryz.func11 rfl trivial ?_ rfl
  simp only [Tryz.ntmps11, List.size_toArray, List.length_cons, List.length_nil, Nat.reduceAdd, Nat.reduceSub, Array.replicate_succ, Array.replicate_zero, List.push_toArray, List.append_toArray, List.nil_append, List.cons_append]
  have H0 := Lib.hid (And.intro b0 (And.intro hB hT)); clear b0 hB hT
  gi_wp2
  obtain ⟨w1, hw1⟩ : ∃ w1, w.alloc (.cells #[.slice none 0 0] 25) = w1 := ⟨_, rfl⟩
  rw [hw1] at H0
  rw [hw1]
  clear hw1
  refine ⟨trivial, (callsIn_wide.2 (treeAll_any w1 bt bm xs H0.out.2.2)).mono ?_⟩
  rintro e w2 ⟨gb, v, rfl, hgb, hL, hge, hvb, hb2⟩
  have B0 := H0.out.1.below hb2 H0.out.1.lt
  have hTgb : w.heap.size ≠ gb := by have := H0.out.1.lt; omega
  have HNE := Lib.hid hTgb; clear hTgb
  have hBw := H0.out.2.1.trans (hb2.mono H0.out.2.1.size)
  have hz2 : w.heap.size < w2.heap.size := B0.lt
  clear hb2 hge
  gi_wp2
  obtain ⟨T, hTe⟩ : ∃ T, T = w.heap.size := ⟨_, rfl⟩
  rw [← hTe] at B0 hBw hz2 HNE ⊢
  have HTE := Lib.hid hTe; clear hTe H0
  have hgl := hgb.lt
  refine wpIn_rangeFunc_tellW (Mine := fun _ => False) (fun _ h => h.elim) rfl (by omega) (gf := 154) (lb := #[.pointer (some ⟨gb, 0, none⟩)]) rfl trivial (enters_of Tryz.func154 (by kernel_rfl) rfl)
    (toldSN_tells 8 (by omega) gb v xs w2 hgb hL (by omega)) KeepIt.trans (keepIt_b hgl hvb) (Below.refl _ _) (fun _ => rfl)
    (fun pre W => ItI T gb v xs pre W ∧ Below T w W)
    (fun c pre W => False)
    (OwnM.of_none (OwnFrom.and (Own.from (ItI.own T gb v xs) _) (ownFrom_below (by have := HTE.out; omega) (by omega))))
    (fun c => OwnM.of_none (fun _ _ _ _ hs _ _ => hs.elim))
    ⟨⟨hgl, ⟨_, B0, World.ownsRow_nil _ _ _ _⟩, hgb, hL⟩, hBw⟩
    (fun x n₀ => { tmps := #[.pointer (some ⟨bt, 0, none⟩), undef, .pointer (some ⟨T, 0, none⟩), .string x.1, .pointer (some ⟨n₀, 0, none⟩), .pointer (some ⟨bt, 0, none⟩), .func (.func 154) #[] #[.pointer (some ⟨gb, 0, none⟩)], .string x.1, .agg x.2.c, undef, undef, undef, undef, undef, undef, undef], defers := [] }) (fun x W => W.alloc (.cells x.2.c 57))
    (fun x n₀ pre W => ItI T gb v xs pre W ∧ Below T w W ∧ Blk W n₀ 57 x.2.c) (fun x n₀ => OwnM.of_none (OwnFrom.and (Own.from (ItI.own T gb v xs) _) (OwnFrom.and (ownFrom_below (by have := HTE.out; omega) (by omega)) (Own.from (fun _ A B row hs hg hr => blk_ownF hs hg hr) _)))) ?made ?assign ?body ?done ?stop
  case assign =>
    rintro l ⟨q, kd, md, tm, dt⟩ n₀ W rfl K hK
    simp only [Nd.c] at hK ⊢
    gi_wp2
    exact hK
  case made =>
    rintro pre x W ⟨hI, hB⟩ hT
    have hba := (Below.refl W.heap.size W).alloc (Nat.le_refl _) (.cells x.2.c 57)
    obtain ⟨o, c0, _⟩ := hI.2.1
    refine ⟨⟨hI.below hba, hB.alloc (Nat.le_of_lt c0.lt) _, Blk.new _ _ _⟩, ?_, ?_⟩
    · exact keeps_belowF hba
    · exact .below hba hI.2.2.1.lt (fun g hg => by
        obtain ⟨r, hr⟩ := hT
        obtain ⟨A, c, rfl, _, _, hx⟩ := hI.2.2.2
        obtain ⟨g2, off, cur, rfl, hB, _⟩ := hx (by rw [← hr]; simp; omega)
        cases hg
        exact hB.lt)
  case body =>
    rintro l pre x n₀ W ⟨⟨hgl2, ⟨o, b1, ho⟩, hg, hL⟩, hB, hX⟩ hT
    have hx0 : 0 < xs.length := by obtain ⟨r, hr⟩ := hT; rw [← hr]; simp; omega
    have hpl : pre.length + 1 ≤ 1000 := by obtain ⟨r, hr⟩ := hT; have := congrArg List.length hr; simp at this; omega
    have x0 := hX.cell 0
    have x1 := hX.cell 1
    have x2 := hX.cell 2
    have x3 := hX.cell 3
    simp [Nd.c] at x0 x1 x2 x3
    have m1 := b1.cell 0
    have f1 := b1.frozen 0
    simp at m1
    obtain ⟨A3, c3, rfl, _, _, _⟩ := SlV_of_any ho
    have hTW := Nat.le_of_lt b1.lt
    have HH := Lib.hid (And.intro b1 (And.intro ho (And.intro hg (And.intro hL hB)))); clear b1 ho hg hL hB hX hT
    gi_wp2_with (gi_at_builtin; refine wpListIn_app rfl _ _ 25 rfl T 59 (.agg #[.string ⟨#[]⟩, .int .i64 0, .int .i64 0, .int .u32 0, .string ⟨#[]⟩]) 5 56 Tryz.underlying25 infoIt rfl (by decide) _ pre.length _ rfl (HH.out.2.1.alloc _) W.heap.size 1 #[.string x.1, .int .i64 x.2.kind, .int .i64 x.2.mode, .int .u32 x.2.time, .string x.2.data] 59 rfl (Blk.new _ _ _) rfl (by simp [Value.oneCell']) (by omega) (by decide) (by simp; omega) _ rfl ?_; intro g cap w5 hown1 hgrow1 hat hlt1; have hb5 := app_pre HH.out.1 HH.out.2.1 ((Below.refl _ _).alloc (Nat.le_refl _) _) hgrow1 (by decide); have c5 := hb5.cell 0; have f5 := hb5.frozen 0; simp at c5)
    have hA := app_body HH.out.1 HH.out.2.1 ((Below.refl _ _).alloc (Nat.le_refl _) _) hgrow1 hown1 (by omega) (Nat.le_refl _) (by decide)
    have hK := hA.keepIt HH.out.2.2.1 HH.out.2.2.2.1 hx0 (by decide) HNE.out.symm (by decide) (by decide)
    refine ⟨hA.keeps, hK, ⟨Nat.lt_of_lt_of_le hgl2 hA.below.size, ⟨_, hA.box, ?_⟩, hA.far _ _ _ HH.out.2.2.1 (by decide) HNE.out.symm, HH.out.2.2.2.1.kept (fun g cur h _ => hK.row g h)⟩, HH.out.2.2.2.2.trans hA.below⟩
    exact OwnIt.app hA.own rfl
  case done =>
    rintro D zs W hD hzs ⟨⟨_, ⟨o, b1, ho⟩, _, _⟩, hB⟩ hK
    have hz : zs = xs := hzs
    subst hz
    have m1 := b1.cell 0
    have f1 := b1.frozen 0
    simp at m1
    obtain ⟨A3, c3, rfl, _, _, _⟩ := SlV_of_any ho
    have hD' : w.heap.size ≤ D := by have := HTE.out; omega
    have HC := Lib.hid (And.intro b1 (And.intro ho (And.intro hB hK))); clear b1 ho hB hK hzs
    gi_wp2
    have hK2 : (W.setCell ⟨T, 0, none⟩ (.slice A3 zs.length c3)).heap[D]? = some (Obj.deferred (some [])) := (KeepsOthers.setCell W ⟨T, 0, none⟩ (.slice A3 zs.length c3)).same D _ HC.out.2.2.2 rfl
    have hR2 : Blk (W.setCell ⟨T, 0, none⟩ (.slice A3 zs.length c3)) T 25 #[.slice A3 zs.length c3] := HC.out.1.put 0 (.slice A3 zs.length c3)
    have hO2 : OwnIt (W.setCell ⟨T, 0, none⟩ (.slice A3 zs.length c3)) T (.slice A3 zs.length c3) zs := HC.out.2.1.kept (grown_put (grown_refl W (some T)) 0 _) (.inr (own_ne_blk HC.out.2.1 HC.out.1 (by decide)))
    have hB2 := HC.out.2.2.1.setCell (p := ⟨T, 0, none⟩) (Nat.le_refl _) (.slice A3 zs.length c3)
    have hw := fun r (e : some D = some r) => show ∃ o : Obj, (W.setCell ⟨T, 0, none⟩ (.slice A3 zs.length c3)).heap[r]? = some o ∧ o.isCells = false from (by cases e; exact ⟨_, hK2, rfl⟩)
    refine ⟨by simp, .inl ⟨_, _, rfl, run_takeDeferred hK2, ?_⟩⟩
    refine ⟨_, res_cell_sl rfl _ _ T 25 (.slice A3 zs.length c3) rfl (blk_ownF hR2 (grownBy_putObj' _ D (.deferred none)) hw) Tryz.underlying25, ⟨_, rfl, ?_, ?_⟩⟩
    · rw [← HTE.out]
      exact own_ownF hO2 (grownBy_putObj' _ D (.deferred none)) hw
    · exact (hB2.mono (by have := HTE.out; omega)).trans (belowK_b (w := w) (Nat.le_refl _) _ D _ _ hD' hK2 rfl rfl)
  case stop =>
    rintro D c pre W hD hSp h
    exact h.elim
end Go.Proofs.YtnpehjgnplaabaaGreatDoor
/- tree.Under$1: what Under leaves out. -/
set_option linter.unusedVariables false
set_option linter.unusedSimpArgs false
namespace Go.Proofs.YtnpehjgnplaabaaGreatDoor
open Go Go.RowKit
open Sw
/-- is an entry neither at a path nor under it? -/
def awayT (p : ByteArray) (x : NE) : Bool := !decide (x.1 = p) && !inS (upsS x.1) p
set_option maxRecDepth 100000 in
set_option maxHeartbeats 4000000 in
theorem treeUnder1_any (w : World) (g : Nat) (p : ByteArray) (x : NE) (hB : Blk w g 9 #[.string p]) (hp : p.size ≤ 90000) (hx : x.1.size ≤ 90000) :
    Calls Tryz.prog 100 #[.agg #[.string x.1, .int .i64 x.2.kind, .int .i64 x.2.mode, .int .u32 x.2.time, .string x.2.data], .pointer (some ⟨g, 0, none⟩)] w fun e w' => e = .returned (.bool (awayT p x)) ∧ Below w.heap.size w w' := by
  have c0 := hB.cell 0
  simp at c0
  have hg := hB.lt
  have hse := str_eq x.1 p
  have HU := Lib.hid (under_any (w.alloc (.cells #[.string x.1, .int .i64 x.2.kind, .int .i64 x.2.mode, .int .u32 x.2.time, .string x.2.data] 59)) p x.1 (by omega))
  have HB1 := Lib.hid ((Below.refl w.heap.size w).alloc (Nat.le_refl _) (.cells #[.string x.1, .int .i64 x.2.kind, .int .i64 x.2.mode, .int .u32 x.2.time, .string x.2.data] 59))
  clear hB
  unfold awayT
  by_cases hk : x.1 = p
  · rw [decide_eq_true hk] at hse ⊢
    have hse2 : (!(x.1.toList == p.toList)) = false := by rw [hse]; rfl
    clear hk
    go_enter Tryz.func100, Tryz.ntmps100
    go_wp2_with fail
    go_ret
    exact ⟨rfl, HB1.out⟩
  · rw [decide_eq_false hk] at hse ⊢
    have hse2 : (!(x.1.toList == p.toList)) = true := by rw [hse]; rfl
    clear hk
    generalize inS (upsS x.1) p = R at *
    go_enter Tryz.func100, Tryz.ntmps100
    go_wp2_with fail
    refine HU.out.mono ?_
    rintro _ w2 ⟨rfl, hb2⟩
    have HB2 := Lib.hid (HB1.out.trans (hb2.mono HB1.out.size)); clear hb2
    go_wp2_with fail
    go_ret
    exact ⟨by cases R <;> rfl, HB2.out⟩
end Go.Proofs.YtnpehjgnplaabaaGreatDoor
/- slices.Clone of a row of api.Item: the same elements, in memory of the call's own. -/
set_option linter.unusedVariables false
set_option linter.unusedSimpArgs false
namespace Go.Proofs.YtnpehjgnplaabaaGreatDoor
open Go Go.RowKit
open Sw
end Go.Proofs.YtnpehjgnplaabaaGreatDoor
/- sorted.Map[string,swingle/api.Node]: what a map holds; find. -/
set_option linter.unusedVariables false
set_option linter.unusedSimpArgs false
namespace Go.Proofs.YtnpehjgnplaabaaGreatDoor
open Go Go.RowKit
open Sw
/-- an entry's cells -/
def eCIT (e : ByteArray × Nd) : List Value := [.string e.1, .int .i64 e.2.kind, .int .i64 e.2.mode, .int .u32 e.2.time, .string e.2.data]
theorem eCIT_len (e : ByteArray × Nd) : (eCIT e).length = 5 := rfl
end Go.Proofs.YtnpehjgnplaabaaGreatDoor
/- slices.Reverse of a row of api.Item that the call owns. -/
set_option linter.unusedVariables false
set_option linter.unusedSimpArgs false
namespace Go.Proofs.YtnpehjgnplaabaaGreatDoor
open Go Go.RowKit
open Sw
end Go.Proofs.YtnpehjgnplaabaaGreatDoor
/- slices.Insert of one element into a row of api.Item that the call owns. -/
set_option linter.unusedVariables false
set_option linter.unusedSimpArgs false
namespace Go.Proofs.YtnpehjgnplaabaaGreatDoor
open Go Go.RowKit
open Sw
end Go.Proofs.YtnpehjgnplaabaaGreatDoor
/- slices.Delete of one element out of a row of api.Item that the call owns. -/
set_option linter.unusedVariables false
set_option linter.unusedSimpArgs false
namespace Go.Proofs.YtnpehjgnplaabaaGreatDoor
open Go Go.RowKit
open Sw
end Go.Proofs.YtnpehjgnplaabaaGreatDoor
