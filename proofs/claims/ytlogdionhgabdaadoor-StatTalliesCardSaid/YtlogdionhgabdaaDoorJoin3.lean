/- Several texts, joined for the limit of sixty files; each one opens with its own comment. -/
import Derived.Test.YtlogdionhgabdaaDoorJoin2
import Derived.Deep.Slices
import Derived.Deep.Fields
import Derived.ChangeSame
import Derived.ProofKit
import Derived.OpenShut
/- Arguments that are slices, opened by a decoder of their elements: for all seats, over any program. -/
set_option linter.unusedVariables false
namespace Sw
open Go Go.RowKit Go.ChangeShapes Go.WideShapes Go.Deep
/-- The slice that begins at A holds the elements l, each of 'size' cells, as E lays them. -/
def SlOf (w : World) (size : Nat) {α : Type} (E : α → List Value) (A : Option Addr) (l : List α) : Prop :=
  0 < l.length → ∃ b off, A = some ⟨b, off, none⟩ ∧ b < w.heap.size ∧ ∀ i (h : i < l.length) j, j < size → w.cell? ⟨b, off + i * size + j, none⟩ = (E l[i])[j]?
section
variable {w w' : World} {size : Nat} {α : Type} {E : α → List Value} {A : Option Addr} {l : List α}
theorem SlOf.nil (w : World) (size : Nat) (E : α → List Value) (A : Option Addr) : SlOf w size E A [] := fun h => absurd h (by simp)
theorem SlOf.below {B : Nat} (h : SlOf w size E A l) (hb : Below B w w') (hB : w.heap.size ≤ B) : SlOf w' size E A l := fun hn => by
  obtain ⟨b, off, hA, hlt, hc⟩ := h hn
  exact ⟨b, off, hA, Nat.lt_of_lt_of_le hlt hb.size, fun i hi j hj => by rw [hb.cell (p := ⟨b, _, none⟩) (by show b < B; omega)]; exact hc i hi j hj⟩
theorem SlOf.take (h : SlOf w size E A l) (k : Nat) : SlOf w size E A (l.take k) := fun hn => by
  obtain ⟨b, off, hA, hlt, hc⟩ := h (by rw [List.length_take] at hn; omega)
  exact ⟨b, off, hA, hlt, fun i hi j hj => by
    have hi' : i < l.length := by rw [List.length_take] at hi; omega
    rw [List.getElem_take]; exact hc i hi' j hj⟩
end
/-- a block of elements of one cell, known whole, is a slice of them -/
theorem SlOf.of_blk1 {w : World} {g : Nat} {t : TypeId} {cs : Array Value} {α : Type} {e : α → Value} {l : List α} (h : Blk w g t cs) (hl : cs.toList = l.map e) : SlOf w 1 (fun x => [e x]) (some ⟨g, 0, none⟩) l :=
  fun hn => ⟨g, 0, rfl, h.lt, fun i hi j hj => by
    have hj0 : j = 0 := by omega
    subst hj0
    rw [h.cell, ← Array.getElem?_toList, hl]
    simp [List.getElem?_eq_getElem hi]⟩
theorem add_mk (b off n : Nat) : (⟨b, off, none⟩ : Addr).add n = ⟨b, off + n, none⟩ := by
  unfold Addr.add
  split
  · rename_i h; subst h; rfl
  · rfl
theorem exists_list {α : Type} {Q : Nat → α → Prop} : ∀ (n : Nat), (∀ i, i < n → ∃ a, Q i a) → ∃ l : List α, l.length = n ∧ ∀ i (h : i < l.length), Q i l[i]
  | 0, _ => ⟨[], rfl, fun i h => absurd h (by simp)⟩
  | n + 1, h => by
    obtain ⟨l, hl, hq⟩ := exists_list n (fun i hi => h i (by omega))
    obtain ⟨a, ha⟩ := h n (by omega)
    refine ⟨l ++ [a], by simp [hl], fun i hi => ?_⟩
    by_cases hin : i < l.length
    · rw [List.getElem_append_left hin]; exact hq i hin
    · have : i = n := by simp [hl] at hi; omega
      subst this
      rw [List.getElem_append_right (by omega)]
      simpa [hl] using ha
section
variable {H : Type} {enc : TypeId × Value → H} {P : Program} {w : World}
/-- A struct of one-cell fields: each cell reads as its field. -/
theorem dec_fields {e : TypeId} {fs : Array Field} {fuel : Nat} {cs : List Value} {x : DataW H × List MemPlace} (he : P.underlying e = some (.struct fs)) (hone : oneCellFields P fs = true) (hC : P.cellsOf e = fs.size)
    (h : DataW.trod enc P w 0 (fun _ => true) true fuel e cs = some x) :
    cs.length = fs.size ∧ ∀ (j : Nat) (f : Field), fs[j]? = some f → ∃ (c : Value) (n : Nat) (y : DataW H × List MemPlace), cs[j]? = some c ∧ DataW.trod enc P w 0 (fun _ => true) true n f.type [c] = some y := by
  obtain ⟨ys, n, _, _, hlen, hyl, hf⟩ := DataW.trod_struct he h
  refine ⟨hlen.trans hC, fun j f hj => ?_⟩
  obtain ⟨ho, hk⟩ := hone_of hone j f hj
  have hjl : j < fs.size := (Array.getElem?_eq_some_iff.1 hj).1
  have hjc : j < cs.length := by omega
  have h1 := hf j f hj
  rw [ho, hk, List.drop_eq_getElem_cons hjc, List.getElem?_eq_getElem (by omega)] at h1
  exact ⟨cs[j], n, _, List.getElem?_eq_getElem hjc, h1⟩
/-- An argument that is a slice, by a decoder of its elements. -/
theorem open_slice_dec {α : Type} {r : Reach} {b0 : Nat} (E : α → List Value) (V : α → Prop) {t e : TypeId} {v : Value} {d : DataW H} {p : List MemPlace} {size : Nat} (ht : P.underlying t = some (.slice e)) (hC : P.cellsOf e = size) (hs : 0 < size)
    (hdec : ∀ fuel cs x, DataW.trod enc P w 0 (fun _ => true) true fuel e cs = some x → ∃ a : α, cs = E a ∧ V a)
    (hv : Value.okWide P w r b0 t v) (h : DataW.Trod enc P w 0 (fun _ => true) true t v d p) :
    ∃ (A : Option Addr) (n c : Nat) (l : List α), v = .slice A n c ∧ n ≤ c ∧ c ≤ maxLen ∧ l.length = n ∧ SlOf w size E A l ∧ (∀ a ∈ l, V a) ∧ (A = none → n = 0 ∧ c = 0) := by
  obtain ⟨A, n, c, rfl⟩ := okWide_slice ht hv
  obtain ⟨fuel, hf⟩ := h
  rcases open_slice ht hf with ⟨h0, _⟩ | ⟨a, len, cap, m, k, D, Pl, hcs, hb, hl, hm, hmm, hx, hi⟩
  · simp [Value.cells] at h0
    obtain ⟨rfl, rfl, rfl⟩ := h0
    exact ⟨none, 0, 0, [], rfl, Nat.le_refl _, by simp [maxLen], rfl, SlOf.nil _ _ _ _, by simp, fun _ => ⟨rfl, rfl⟩⟩
  · simp [Value.cells] at hcs
    obtain ⟨rfl, rfl, rfl⟩ := hcs
    rw [hC] at hi
    have hmc : m = c := by simpa using hmm
    subst hmc
    obtain ⟨l, hlen, hq⟩ := exists_list (Q := fun i (x : α) => V x ∧ (E x).length = size ∧ ∀ j, j < size → w.cell? ((a.add (i * size)).add j) = (E x)[j]?) n (fun i hin => by
      obtain ⟨cs', hc, htr⟩ := hi i (by omega)
      obtain ⟨x, rfl, hx⟩ := hdec _ _ _ htr
      obtain ⟨_, hcl, hat⟩ := World.cells?_some hc
      exact ⟨x, hx, hcl, fun j hj => hat j hj⟩)
    refine ⟨some a, n, m, l, rfl, hl, hm, hlen, fun hn => ?_, fun x hx => ?_, by simp⟩
    · obtain ⟨_, hsz, hat⟩ := hq 0 hn
      have h0 := hat 0 hs
      rw [List.getElem?_eq_getElem (by omega)] at h0
      have hsp := World.cell?_spot h0
      have hlt := World.block_lt_of_cell? w _ h0
      rw [add_add, Nat.zero_mul, Nat.add_zero] at hsp hlt
      rw [show a.add 0 = a from rfl] at hsp hlt
      obtain ⟨b, off, spot⟩ := a
      have hsp' : spot = none := hsp
      subst hsp'
      refine ⟨b, off, rfl, hlt, fun i hi j hj => ?_⟩
      have h1 := (hq i hi).2.2 j hj
      rw [add_mk, add_mk] at h1
      exact h1
    · obtain ⟨i, hi', rfl⟩ := List.getElem_of_mem hx
      exact (hq i hi').1
/-- An argument that is an array of elements of one cell, by a decoder of its elements. -/
theorem open_array_dec {α : Type} {r : Reach} {b0 : Nat} (E : α → Value) (V : α → Prop) {t e : TypeId} {v : Value} {d : DataW H} {p : List MemPlace} {n : Nat} (ht : P.underlying t = some (.array n e)) (hC : P.cellsOf e = 1) (hT : P.cellsOf t = n)
    (hdec : ∀ fuel c x, DataW.trod enc P w 0 (fun _ => true) true fuel e [c] = some x → ∃ a : α, c = E a ∧ V a)
    (hv : Value.okWide P w r b0 t v) (h : DataW.Trod enc P w 0 (fun _ => true) true t v d p) :
    ∃ (l : List α), v = .agg (l.map E).toArray ∧ l.length = n ∧ ∀ a ∈ l, V a := by
  simp only [Value.okWide, ht] at hv
  obtain ⟨cs, rfl, hsz, _⟩ := hv
  obtain ⟨fuel, hf⟩ := h
  obtain ⟨xs, m, _, _, hlen, hxl, hi⟩ := DataW.trod_array ht hf
  have hcl : cs.toList.length = n := by rw [← hT]; exact hlen
  obtain ⟨l, hl, hq⟩ := exists_list (Q := fun i (x : α) => V x ∧ cs.toList[i]? = some (E x)) n (fun i hin => by
    have h1 := hi i hin
    rw [hC, Nat.mul_one] at h1
    have h2 : (cs.toList.drop i).take 1 = [cs.toList[i]'(by omega)] := by rw [List.drop_eq_getElem_cons (by omega)]; rfl
    rw [show (Value.agg cs).cells = cs from rfl, h2, List.getElem?_eq_getElem (by omega)] at h1
    obtain ⟨a, ha, hva⟩ := hdec _ _ _ h1
    exact ⟨a, hva, by rw [List.getElem?_eq_getElem (by omega), ha]⟩)
  refine ⟨l, ?_, hl, fun a ha => ?_⟩
  · congr 1
    apply Array.ext'
    apply List.ext_getElem?
    intro i
    by_cases hin : i < n
    · rw [(hq i (by omega)).2]
      simp [List.getElem?_eq_getElem (show i < l.length by omega)]
    · rw [List.getElem?_eq_none (by omega), List.getElem?_eq_none (by simp; omega)]
  · obtain ⟨i, hi', rfl⟩ := List.getElem_of_mem ha
    exact (hq i hi').1
end
end Sw
