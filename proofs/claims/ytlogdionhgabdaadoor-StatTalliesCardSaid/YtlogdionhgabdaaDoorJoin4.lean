/- Several texts, joined for the limit of sixty files; each one opens with its own comment. -/
import Derived.Test.YtlogdionhgabdaaDoorJoin3
import Derived.ChangeKeysEq
import Derived.Laws.StructEq
/- More on slices that can be read: the rest of a slice. Over any program. -/
set_option linter.unusedVariables false
namespace Sw
open Go Go.RowKit
/-- the slice from its element k on -/
theorem SlOf.drop {w : World} {size : Nat} {α : Type} {E : α → List Value} {l : List α} {b off : Nat} (h : SlOf w size E (some ⟨b, off, none⟩) l) (k : Nat) : SlOf w size E (some ⟨b, off + k * size, none⟩) (l.drop k) := fun hn => by
  rw [List.length_drop] at hn
  obtain ⟨b', off', hA, hlt, hc⟩ := h (by omega)
  have hA' : (⟨b, off, none⟩ : Addr) = ⟨b', off', none⟩ := Option.some.inj hA
  have hb : b = b' := congrArg Addr.block hA'
  have ho : off = off' := congrArg Addr.off hA'
  subst hb
  subst ho
  refine ⟨b, off + k * size, rfl, hlt, fun i hi j hj => ?_⟩
  rw [List.length_drop] at hi
  have h2 := hc (k + i) (by omega) j hj
  rw [List.getElem_drop]
  rw [← h2, Nat.add_mul, Nat.add_assoc off]
/-- a value that is a slice of the elements l -/
def SlV (w : World) (size : Nat) {α : Type} (E : α → List Value) (v : Value) (l : List α) : Prop := ∃ A c, v = .slice A l.length c ∧ l.length ≤ c ∧ c ≤ maxLen ∧ SlOf w size E A l
theorem flat_get {α β : Type} {E : α → List β} {size : Nat} (hE : ∀ x, (E x).length = size) : ∀ (l : List α) (i : Nat) (h : i < l.length) (j : Nat), j < size → (l.flatMap E)[i * size + j]? = (E l[i])[j]?
  | [], i, h, _, _ => absurd h (by simp)
  | a :: l, 0, _, j, hj => by
    rw [List.flatMap_cons, Nat.zero_mul, Nat.zero_add, List.getElem?_append_left (by rw [hE]; exact hj)]; rfl
  | a :: l, i + 1, h, j, hj => by
    rw [List.flatMap_cons, List.getElem?_append_right (by rw [hE, Nat.add_mul]; omega), hE]
    have := flat_get hE l i (by simpa using h) j hj
    rw [show (i + 1) * size + j - size = i * size + j by rw [Nat.add_mul]; omega, this]
    rfl
theorem flat_len {α β : Type} {E : α → List β} {size : Nat} (hE : ∀ x, (E x).length = size) : ∀ l : List α, (l.flatMap E).length = l.length * size
  | [] => by simp
  | a :: l => by rw [List.flatMap_cons, List.length_append, hE, flat_len hE l, List.length_cons, Nat.add_mul]; omega
theorem SlV.of_own {w : World} {base : Nat} {e : TypeId} {size n : Nat} {v : Value} {α : Type} {E : α → List Value} {l : List α} (h : w.ownsRow base e size v n (l.flatMap E)) (hE : ∀ x, (E x).length = size) (hs : 0 < size) : SlV w size E v l := by
  have hn : l.length = n := by
    have := h.1
    rw [flat_len hE] at this
    exact Nat.eq_of_mul_eq_mul_right hs this
  subst hn
  rcases h.2 with ⟨rfl, h0⟩ | ⟨g, cap, cur, rfl, hb, hh, hc, hm, hsz, hx⟩
  · refine ⟨none, 0, by rw [h0], by omega, by simp [maxLen], fun hp => by omega⟩
  · refine ⟨_, cap, rfl, hc, hm, fun hp => ⟨g, 0, rfl, (Array.getElem?_eq_some_iff.1 hh).1, fun i hi j hj => ?_⟩⟩
    have hlt : i * size + j < l.length * size := by
      have : (i + 1) * size ≤ l.length * size := Nat.mul_le_mul_right size hi
      rw [Nat.add_mul] at this
      omega
    rw [cell_of_row w g _ cur e (0, 0) hh, Nat.zero_add, ← flat_get hE l i hi j hj, ← hx, List.getElem?_take, if_pos hlt, Array.getElem?_toList]
theorem SlV.below {w w' : World} {size B : Nat} {α : Type} {E : α → List Value} {v : Value} {l : List α} (h : SlV w size E v l) (hb : Below B w w') (hB : w.heap.size ≤ B) : SlV w' size E v l := by
  obtain ⟨A, c, rfl, h1, h2, h3⟩ := h
  exact ⟨A, c, rfl, h1, h2, h3.below hb hB⟩
theorem run_eqItems_ints {P : Program} {e : TypeId} {k : IntKind} (he : P.underlying e = some (.int k)) (hp : P.plainKey e = true) (d n : Nat) (f : Nat → Int) (cs : Array Value) (hcs : ∀ j, j < n → cs[j]? = some (.int k (f j))) (w : World) :
    ∀ is : List Nat, (∀ j ∈ is, j < n) → (Op.eqItems (d + 1) e 1 cs cs is).run P w = .ok true w
  | [], _ => by simp [Op.eqItems]
  | j :: is, h => by
    have hj := run_part_plain w hp (off := j * 1) (by rw [Nat.mul_one]; exact hcs j (h j (by simp)))
    have ih := run_eqItems_ints he hp d n f cs hcs w is (fun j hj => h j (by simp [hj]))
    simp only [Op.eqItems, Sem.run_bind, hj, Result.andThen_ok, run_equalIn_int w d e k k (f j) (f j) he]
    simpa using ih
/-- an array of numbers is itself -/
theorem run_eql_ints {P : Program} {t e : TypeId} {n : Nat} {i : TypeInfo} {k : IntKind} (hu : P.underlying t = some (.array n e)) (hi : P.info? e = some i) (he : P.underlying e = some (.int k)) (hp : P.plainKey e = true) (hC : P.cellsOf e = 1) (f : Nat → Int) (cs : Array Value) (hcs : ∀ j, j < n → cs[j]? = some (.int k (f j))) (w : World) :
    (binOp .eql t (.agg cs) (.agg cs)).run P w = .ok (.bool true) w := by
  rw [run_eql_struct, run_equalIn_array w 9999 cs cs hu hi, hC, run_eqItems_ints he hp 9998 n f cs hcs w (List.range n) (fun j hj => by simpa using hj)]
  rfl
section
open Go.ChangeShapes Go.WideShapes Go.Deep
variable {H : Type} {enc : TypeId × Value → H} {P : Program} {w : World}
/-- An argument that is an array of elements of some cells each, by a decoder of its elements. -/
theorem open_array_rows {α : Type} {r : Reach} {b0 : Nat} (E : α → List Value) (V : α → Prop) {t e : TypeId} {v : Value} {d : DataW H} {p : List MemPlace} {n size : Nat} (ht : P.underlying t = some (.array n e)) (hC : P.cellsOf e = size) (hT : P.cellsOf t = n * size)
    (hE : ∀ a, (E a).length = size)
    (hdec : ∀ fuel cs x, DataW.trod enc P w 0 (fun _ => true) true fuel e cs = some x → ∃ a : α, cs = E a ∧ V a)
    (hv : Value.okWide P w r b0 t v) (h : DataW.Trod enc P w 0 (fun _ => true) true t v d p) :
    ∃ (l : List α), v = .agg (l.flatMap E).toArray ∧ l.length = n ∧ ∀ a ∈ l, V a := by
  simp only [Value.okWide, ht] at hv
  obtain ⟨cs, rfl, hsz, _⟩ := hv
  obtain ⟨fuel, hf⟩ := h
  obtain ⟨xs, m, _, _, hlen, hxl, hi⟩ := DataW.trod_array ht hf
  have hcl : cs.toList.length = n * size := by rw [← hT]; exact hlen
  obtain ⟨l, hl, hq⟩ := exists_list (Q := fun i (x : α) => V x ∧ (cs.toList.drop (i * size)).take size = E x) n (fun i hin => by
    have h1 := hi i hin
    rw [hC, List.getElem?_eq_getElem (by omega)] at h1
    obtain ⟨a, ha, hva⟩ := hdec _ _ _ h1
    exact ⟨a, hva, ha⟩)
  refine ⟨l, ?_, hl, fun a ha => ?_⟩
  · congr 1
    apply Array.ext'
    rw [List.toList_toArray]
    have hg : ∀ (l : List α) (xs : List Value), xs.length = l.length * size → (∀ i (h : i < l.length), (xs.drop (i * size)).take size = E l[i]) → xs = l.flatMap E := by
      intro l
      induction l with
      | nil => intro xs hx _; simp at hx; simp [hx]
      | cons a l ih =>
        intro xs hx hh
        rw [List.flatMap_cons, ← List.take_append_drop size xs]
        have h0 := hh 0 (by simp)
        rw [Nat.zero_mul, List.drop_zero] at h0
        rw [h0]
        congr 1
        refine ih _ ?_ (fun i hi => ?_)
        · rw [List.length_drop, hx, List.length_cons, Nat.add_mul]; omega
        · have := hh (i + 1) (by simpa using hi)
          rw [List.drop_drop, show size + i * size = (i + 1) * size by rw [Nat.add_mul]; omega]
          exact this
    exact hg l cs.toList (by rw [hcl, hl]) (fun i hi => (hq i hi).2)
  · obtain ⟨i, hi', rfl⟩ := List.getElem_of_mem ha
    exact (hq i hi').1
end
/-- the block that was made second -/
theorem blk_snd (w : World) (o : Obj) (c : Array Value) (t : TypeId) : Blk ((w.alloc o).alloc (.cells c t)) (w.heap.size + 1) t c := by
  have h := Blk.new (w.alloc o) t c
  rw [World.size_alloc] at h
  exact h
theorem blk_trd (w : World) (o p : Obj) (c : Array Value) (t : TypeId) : Blk (((w.alloc o).alloc p).alloc (.cells c t)) (w.heap.size + 1 + 1) t c := by
  have h := blk_snd (w.alloc o) p c t
  rw [World.size_alloc] at h
  exact h
theorem blk_fth (w : World) (o p q : Obj) (c : Array Value) (t : TypeId) : Blk ((((w.alloc o).alloc p).alloc q).alloc (.cells c t)) (w.heap.size + 1 + 1 + 1) t c := by
  have h := blk_trd (w.alloc o) p q c t
  rw [World.size_alloc] at h
  exact h
theorem blk_mid (w : World) (o : Obj) (c : Array Value) (t : TypeId) (p : Obj) : Blk (((w.alloc o).alloc (.cells c t)).alloc p) (w.heap.size + 1) t c := (blk_snd w o c t).alloc p
/-- the block that was made first -/
theorem blk_fst (w : World) (c : Array Value) (t : TypeId) (o : Obj) : Blk ((w.alloc (.cells c t)).alloc o) w.heap.size t c := (Blk.new w t c).alloc _
end Sw
