/- The steps of layer 17, opened. -/
import Derived.Test.YtlogdionhgabdaaDevRestart
import Derived.Test.YtlogdionhgabdaaOpen
set_option linter.unusedVariables false
set_option linter.unusedSimpArgs false
namespace Sw
open Go Go.RowKit Go.ChangeShapes Go.WideShapes Go.Deep
section
variable {H : Type} {enc : TypeId × Value → H} {P : Program} {w : World}
/-- A slice inside of what was read, by a decoder of its elements. -/
theorem slice_of_trod {α : Type} (E : α → List Value) (V : α → Prop) {t e : TypeId} {fuel : Nat} {cs : List Value} {x : DataW H × List MemPlace} {size : Nat} (ht : P.underlying t = some (.slice e)) (hC : P.cellsOf e = size) (hs : 0 < size)
    (hdec : ∀ fuel cs x, DataW.trod enc P w 0 (fun _ => true) true fuel e cs = some x → ∃ a : α, cs = E a ∧ V a)
    (hf : DataW.trod enc P w 0 (fun _ => true) true fuel t cs = some x) :
    ∃ (A : Option Addr) (n c : Nat) (l : List α), cs = [.slice A n c] ∧ n ≤ c ∧ c ≤ maxLen ∧ l.length = n ∧ SlOf w size E A l ∧ (∀ a ∈ l, V a) := by
  rcases open_slice ht hf with ⟨h0, _⟩ | ⟨a, len, cap, m, k, D, Pl, hcs, hb, hl, hm, hmm, hx, hi⟩
  · exact ⟨none, 0, 0, [], h0, Nat.le_refl _, by simp [maxLen], rfl, SlOf.nil _ _ _ _, by simp⟩
  · rw [hC] at hi
    have hmc : m = cap := by simpa using hmm
    subst hmc
    obtain ⟨l, hlen, hq⟩ := exists_list (Q := fun i (x : α) => V x ∧ (E x).length = size ∧ ∀ j, j < size → w.cell? ((a.add (i * size)).add j) = (E x)[j]?) len (fun i hin => by
      obtain ⟨cs', hc, htr⟩ := hi i (by omega)
      obtain ⟨x, rfl, hx⟩ := hdec _ _ _ htr
      obtain ⟨_, hcl, hat⟩ := World.cells?_some hc
      exact ⟨x, hx, hcl, fun j hj => hat j hj⟩)
    refine ⟨some a, len, m, l, hcs, hl, hm, hlen, fun hn => ?_, fun x hx => ?_⟩
    · obtain ⟨_, hsz, hat⟩ := hq 0 hn
      have h0 := hat 0 hs
      rw [List.getElem?_eq_getElem (by omega)] at h0
      have hsp := World.cell?_spot h0
      have hlt := World.block_lt_of_cell? w _ h0
      rw [add_add, Nat.zero_mul, Nat.add_zero] at hsp hlt
      rw [show a.add 0 = a from rfl] at hsp hlt
      obtain ⟨b, off, spot⟩ := a
      have hsp' : spot = none := hsp
      subst hsp'
      refine ⟨b, off, rfl, hlt, fun i hi j hj => ?_⟩
      have h1 := (hq i hi).2.2 j hj
      rw [add_mk, add_mk] at h1
      exact h1
    · obtain ⟨i, hi', rfl⟩ := List.getElem_of_mem hx
      exact (hq i hi').1
end
structure St17 where
  kind : Int
  pos : Int
  b : UInt8
  v : Value
  keep : List Int
def st17C (s : St17) : List Value := [.int .u64 s.kind, .int .i64 s.pos, .int .u8 (s.b.toNat : Int), s.v]
def inI (x : Int) : Prop := -9223372036854775808 ≤ x ∧ x ≤ 9223372036854775807
structure St17In (w : World) (s : St17) : Prop where
  k0 : 0 ≤ s.kind
  k1 : s.kind < 18446744073709551616
  pos : inI s.pos
  slv : SlV w 1 intE s.v s.keep
  keep : ∀ x ∈ s.keep, inI x
end Sw
namespace Go.Proofs.Ytlogdionhgabdaa
open Go Go.ChangeShapes Go.WideShapes Go.ChangeAt Go.RowKit
open Sw
theorem dec_int {H : Type} {enc : TypeId × Value → H} {w : World} (fuel : Nat) (cs : List Value) (x : DataW H × List MemPlace) (h : DataW.trod enc Try.prog w 0 (fun _ => true) true fuel 3 cs = some x) :
    ∃ a : Int, cs = intE a ∧ inI a := by
  obtain ⟨j, ej, _, wj⟩ := DataW.trod_int Try.underlying3 h
  obtain ⟨j0, j1⟩ := bounds_i64 wj
  exact ⟨j, ej, ⟨by show -9223372036854775808 ≤ j; omega, by show j ≤ 9223372036854775807; omega⟩⟩
set_option maxRecDepth 100000 in
theorem dec_st17 {H : Type} {enc : TypeId × Value → H} {w : World} (fuel : Nat) (cs : List Value) (x : DataW H × List MemPlace) (h : DataW.trod enc Try.prog w 0 (fun _ => true) true fuel 30 cs = some x) :
    ∃ s : St17, cs = st17C s ∧ St17In w s := by
  obtain ⟨ys, n, _, _, hl, hyl, hf⟩ := DataW.trod_struct Try.underlying30 h
  have hl4 : cs.length = 4 := hl.trans (by kernel_rfl)
  have hy4 : ys.length = 4 := hyl.trans rfl
  match cs, hl4, ys, hy4 with
  | [c0, c1, c2, c3], _, [y0, y1, y2, y3], _ =>
    have h0 := hf 0 _ rfl
    have h1 := hf 1 _ rfl
    have h2 := hf 2 _ rfl
    have h3 := hf 3 _ rfl
    replace h0 : DataW.trod enc Try.prog w 0 (fun _ => true) true n 23 ((([c0, c1, c2, c3] : List Value).drop 0).take (Try.prog.cellsOf 23)) = some y0 := h0
    replace h1 : DataW.trod enc Try.prog w 0 (fun _ => true) true n 3 ((([c0, c1, c2, c3] : List Value).drop 1).take (Try.prog.cellsOf 3)) = some y1 := h1
    replace h2 : DataW.trod enc Try.prog w 0 (fun _ => true) true n 5 ((([c0, c1, c2, c3] : List Value).drop 2).take (Try.prog.cellsOf 5)) = some y2 := h2
    replace h3 : DataW.trod enc Try.prog w 0 (fun _ => true) true n 28 ((([c0, c1, c2, c3] : List Value).drop 3).take (Try.prog.cellsOf 28)) = some y3 := h3
    rw [show Try.prog.cellsOf 23 = 1 by kernel_rfl] at h0
    rw [show Try.prog.cellsOf 3 = 1 by kernel_rfl] at h1
    rw [show Try.prog.cellsOf 5 = 1 by kernel_rfl] at h2
    rw [show Try.prog.cellsOf 28 = 1 by kernel_rfl] at h3
    simp only [List.drop_zero, List.drop_succ_cons, List.take_succ_cons, List.take_zero] at h0 h1 h2 h3
    obtain ⟨k, ek, _, wk⟩ := DataW.trod_int Try.underlying23 h0
    obtain ⟨j, ej, _, wj⟩ := DataW.trod_int Try.underlying3 h1
    obtain ⟨b, eb, _, wb⟩ := DataW.trod_int Try.underlying5 h2
    obtain ⟨A, m, c, l, es, hmc, hcm, hlm, hsl, hin⟩ := slice_of_trod (size := 1) intE inI Try.underlying28 (by kernel_rfl) (by decide) dec_int h3
    simp at ek ej eb es
    subst ek ej eb es
    obtain ⟨k0, k1⟩ := bounds_u64 wk
    obtain ⟨j0, j1⟩ := bounds_i64 wj
    have hb : 0 ≤ b ∧ b < 256 := by
      simp [Lit.wf, IntKind.min, IntKind.max, IntKind.signed, IntKind.bits] at wb
      omega
    have hbt : ((UInt8.ofNat b.toNat).toNat : Int) = b := by
      have : b.toNat < 256 := by omega
      simp
      omega
    refine ⟨⟨k, j, UInt8.ofNat b.toNat, .slice A m c, l⟩, ?_, ⟨k0, by show k < 18446744073709551616; omega, ⟨by show -9223372036854775808 ≤ j; omega, by show j ≤ 9223372036854775807; omega⟩, ⟨A, c, by rw [hlm], by rw [hlm]; exact hmc, hcm, hsl⟩, hin⟩⟩
    show _ = [Value.int .u64 k, .int .i64 j, .int .u8 ((UInt8.ofNat b.toNat).toNat : Int), .slice A m c]
    rw [hbt]
end Go.Proofs.Ytlogdionhgabdaa
