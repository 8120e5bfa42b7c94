/- Several texts, joined for the limit of sixty files; each one opens with its own comment. -/
import Derived.RangeFuncFrom
import Derived.RangeFuncNested
import Derived.RangeFuncBound
import Derived.RangeFuncCalls
import Derived.RangeFuncLeaves
import Derived.Shelf.Abstract
import Derived.Shelf.RegionOpen
import Derived.WalkKit
import Derived.OwnWalkIn
import Derived.TacticsInMore
import Derived.LoopNIn
import Derived.LoopIn
import Derived.Maps.OwnIn
import Derived.Test.YtlogdionhgabdaaDoorJoin5
import Derived.Test.YtlogdionhgabdaaDoorJoin6
/- Slices whose memory is known by its block: what keeps it; what an iterator asks of a round. Over any program. -/
set_option linter.unusedVariables false
set_option linter.unusedSimpArgs false
namespace Sw
open Go Go.RowKit
/-- the slice v is the elements l, in a block that is known -/
def Lies (w : World) (te : TypeId) (size : Nat) {α : Type} (E : α → List Value) (v : Value) (l : List α) : Prop :=
  ∃ A c, v = .slice A l.length c ∧ l.length ≤ c ∧ c ≤ maxLen ∧ (0 < l.length → ∃ g off cur, A = some ⟨g, off, none⟩ ∧ Blk w g te cur ∧ (cur.toList.drop off).take (l.length * size) = l.flatMap E)
theorem blk_ownF0 {W W' : World} {row : Option Nat} {g : Nat} {t : TypeId} {cs : Array Value} (h : Blk W g t cs) (hg : W.grownBy W' row) (hr : ∀ r, row = some r → ∃ o : Obj, W.heap[r]? = some o ∧ o.isCells = false) : Blk W' g t cs :=
  h.grown hg (fun e => by
    obtain ⟨o, ho, hc⟩ := hr g e.symm
    unfold Blk at h
    rw [h] at ho
    cases ho
    cases hc)
section
variable {w w' : World} {te : TypeId} {size : Nat} {α : Type} {E : α → List Value} {v : Value} {l : List α}
theorem Lies.kept (h : Lies w te size E v l) (hk : ∀ g cur, v.ownBlock = some g → Blk w g te cur → w'.heap[g]? = w.heap[g]?) : Lies w' te size E v l := by
  obtain ⟨A, c, rfl, h1, h2, h3⟩ := h
  refine ⟨A, c, rfl, h1, h2, fun hp => ?_⟩
  obtain ⟨g, off, cur, rfl, hb, hx⟩ := h3 hp
  exact ⟨g, off, cur, rfl, (hk g cur rfl hb).trans hb, hx⟩
theorem Lies.below (h : Lies w te size E v l) (hb : Below w.heap.size w w') : Lies w' te size E v l := h.kept fun g _ _ hg => hb.block g hg.lt
theorem Lies.nil (w : World) (te : TypeId) (size : Nat) (E : α → List Value) : Lies w te size E (.slice none 0 0) [] := ⟨none, 0, rfl, Nat.le_refl _, by simp [maxLen], fun h => absurd h (by simp)⟩
theorem Lies.of_own {base : Nat} {n : Nat} (h : w.ownsRow base te size v n (l.flatMap E)) (hE : ∀ x, (E x).length = size) (hs : 0 < size) : Lies w te size E v l := by
  have hn : l.length = n := by
    have := h.1
    rw [flat_len hE] at this
    exact Nat.eq_of_mul_eq_mul_right hs this
  subst hn
  rcases h.2 with ⟨rfl, h0⟩ | ⟨g, cap, cur, rfl, hb, hh, hc, hm, hsz, hx⟩
  · exact ⟨none, 0, by rw [h0], by omega, by simp [maxLen], fun hp => by omega⟩
  · exact ⟨_, cap, rfl, hc, hm, fun hp => ⟨g, 0, cur, rfl, hh, by rw [List.drop_zero]; exact hx⟩⟩
theorem Lies.slv (h : Lies w te size E v l) (hE : ∀ x, (E x).length = size) : SlV w size E v l := by
  obtain ⟨A, c, rfl, h1, h2, h3⟩ := h
  refine ⟨A, c, rfl, h1, h2, fun hp => ?_⟩
  obtain ⟨g, off, cur, rfl, hb, hx⟩ := h3 hp
  refine ⟨g, off, rfl, hb.lt, fun i hi j hj => ?_⟩
  have hlt : i * size + j < l.length * size := by
    have : (i + 1) * size ≤ l.length * size := Nat.mul_le_mul_right size hi
    rw [Nat.add_mul] at this
    omega
  rw [hb.cell, ← flat_get hE l i hi j hj, ← hx, List.getElem?_take, if_pos hlt, List.getElem?_drop, Array.getElem?_toList, Nat.add_assoc]
theorem Lies.drop {g off c : Nat} (h : Lies w te size E (.slice (some ⟨g, off, none⟩) l.length c) l) (hE : ∀ x, (E x).length = size) (k : Nat) (hk : k ≤ l.length) (a : Addr) (ha : k < c → a = ⟨g, off + k * size, none⟩) :
    Lies w te size E (.slice (some a) (l.length - k) (c - k)) (l.drop k) := by
  obtain ⟨A, c', hv, h1, h2, h3⟩ := h
  obtain ⟨rfl, hc⟩ : some (⟨g, off, none⟩ : Addr) = A ∧ c = c' := by injection hv with e1 e2 e3; exact ⟨e1, e3⟩
  subst hc
  refine ⟨some a, c - k, by rw [List.length_drop], by rw [List.length_drop]; omega, by omega, fun hp => ?_⟩
  rw [List.length_drop] at hp
  obtain ⟨g', off', cur, hA, hb, hx⟩ := h3 (by omega)
  have hA' : (⟨g, off, none⟩ : Addr) = ⟨g', off', none⟩ := Option.some.inj hA
  have e1 : g = g' := congrArg Addr.block hA'
  have e2 : off = off' := congrArg Addr.off hA'
  subst e1
  subst e2
  refine ⟨g, off + k * size, cur, by rw [ha (by omega)], hb, ?_⟩
  rw [flat_drop hE, ← hx, List.length_drop, List.drop_take, List.drop_drop]
  congr 1
  rw [Nat.sub_mul]
end
theorem Lies.ownF {w w' : World} {te : TypeId} {size : Nat} {α : Type} {E : α → List Value} {v : Value} {l : List α} {row : Option Nat} (h : Lies w te size E v l) (hg : w.grownBy w' row) (hr : ∀ r, row = some r → ∃ o : Obj, w.heap[r]? = some o ∧ o.isCells = false) : Lies w' te size E v l :=
  h.kept fun g cur _ hb => by
    have := blk_ownF0 hb hg hr
    unfold Blk at this hb
    rw [this, hb]
/-- what an iterator over a slice asks of a round: its box and the slice's block lie as they lay -/
structure KeepIt (gb : Nat) (v : Value) (A B : World) : Prop where
  size : A.heap.size ≤ B.heap.size
  box : B.heap[gb]? = A.heap[gb]?
  row : ∀ g, v.ownBlock = some g → B.heap[g]? = A.heap[g]?
theorem KeepIt.trans {gb : Nat} {v : Value} {A B C : World} (h : KeepIt gb v A B) (k : KeepIt gb v B C) : KeepIt gb v A C := ⟨Nat.le_trans h.size k.size, k.box.trans h.box, fun g hg => (k.row g hg).trans (h.row g hg)⟩
theorem KeepIt.below {gb : Nat} {v : Value} {A B : World} {n : Nat} (h : Below n A B) (h1 : gb < n) (h2 : ∀ g, v.ownBlock = some g → g < n) : KeepIt gb v A B := ⟨h.size, h.block gb h1, fun g hg => h.block g (h2 g hg)⟩
theorem keepIt_b {gb : Nat} {v : Value} {w : World} (h1 : gb < w.heap.size) (h2 : ∀ g, v.ownBlock = some g → g < w.heap.size) (W : World) (l : Nat) (o o' : Obj) (hl : w.heap.size ≤ l) (h : W.heap[l]? = some o) (hc : o.isCells = false) (hw : o.isWalk = false) : KeepIt gb v W (W.putObj l o') :=
  .below (belowK_b (Nat.le_refl _) W l o o' hl h hc hw) h1 h2
theorem blk_ownF {W W' : World} {row : Option Nat} {g : Nat} {t : TypeId} {cs : Array Value} (h : Blk W g t cs) (hg : W.grownBy W' row) (hr : ∀ r, row = some r → ∃ o : Obj, W.heap[r]? = some o ∧ o.isCells = false) : Blk W' g t cs :=
  h.grown hg (fun e => by
    obtain ⟨o, ho, hc⟩ := hr g e.symm
    unfold Blk at h
    rw [h] at ho
    cases ho
    cases hc)
theorem keeps_belowF {W W' : World} (h : Below W.heap.size W W') : KeepsOthers W W' := ⟨h.size, fun k o hk _ => by rw [h.block k (Array.getElem?_eq_some_iff.1 hk).1]; exact hk⟩
theorem keeps_grownF {W W' : World} {g : Nat} {t : TypeId} {cs : Array Value} (h : W.grownBy W' (some g)) (hb : Blk W g t cs) : KeepsOthers W W' := ⟨h.size, fun k o hk hc => by
  have hlt := (Array.getElem?_eq_some_iff.1 hk).1
  by_cases e : k = g
  · subst e
    unfold Blk at hb
    rw [hb] at hk
    cases hk
    cases hc
  · rw [h.block k hlt (by simpa using e)]; exact hk⟩
theorem own_ownF {W W' : World} {row : Option Nat} {base : Nat} {e : TypeId} {size n : Nat} {v : Value} {xs : List Value} (h : W.ownsRow base e size v n xs) (hg : W.grownBy W' row) (hr : ∀ r, row = some r → ∃ o : Obj, W.heap[r]? = some o ∧ o.isCells = false) : W'.ownsRow base e size v n xs :=
  h.kept hg (by
    rcases h.2 with ⟨rfl, _⟩ | ⟨g, cap, cur, rfl, _, hh, _⟩
    · exact .inl rfl
    · right
      intro he
      obtain ⟨o, ho, hc⟩ := hr g he.symm
      rw [hh] at ho
      cases ho
      cases hc)
/-- 'append(l, x)' inside a fence, in a round too: x lies in a block of its own -/
theorem wpListIn_app {F : Fence} {nF : Nat} {P : Program} {w : World} {ops : Array Oper} {rest : List Oper} {o : Oper} {a : Act} {Q : Exit → Act → World → Prop} (hgd : o.guard = none) (s x : Operand) (t : TypeId)
    (ho : o.op = .call { callee := .builtin .append, args := #[s, x], argTypes := #[t, t] })
    (base : Nat) (e : TypeId) (z : Value) (size bytes : Nat) (ht : P.underlying t = some (.slice e)) (hi : (P.info? e).map (fun i => (i.zero, i.size, i.bytes)) = some (some z, size, bytes))
    (hzs : z.cells.size = size) (hsz : 0 < size)
    (v : Value) (n : Nat) (xs : List Value) (hs : a.eval s = v) (hown : w.ownsRow base e size v n xs)
    (B : Nat) (c : Nat) (news : Array Value) (te : TypeId) (hx : a.eval x = .slice (some ⟨B, 0, none⟩) 1 c) (hB : Blk w B te news) (hl : news.size = size) (h1 : ∀ u ∈ news.toList, u.oneCell' = true)
    (hn : n + 1 ≤ 1000000) (hby : bytes ≤ 1000000) (hbase : base ≤ w.heap.size) (H : Nat) (hH : w.heap.size = H)
    (h : ∀ g cap w', w'.ownsRow base e size (.slice (some ⟨g, 0, none⟩) (n + 1) cap) (n + 1) (xs ++ news.toList) → w.grownBy w' v.ownBlock → (v.ownBlock = some g ∨ g = H) → g < w'.heap.size → wpListIn F nF P ops Q rest (a.put o.dst (.slice (some ⟨g, 0, none⟩) (n + 1) cap)) w') :
    wpListIn F nF P ops Q (o :: rest) a w := by
  obtain ⟨i, hi, hz, hs2, hb⟩ := info_parts hi
  refine wpListIn_append_own_at (w := w) hgd s x t ho base e i z size bytes ht hi hz hs2 hb hzs hsz v n xs hs hown ⟨B, 0, none⟩ 1 c news.toList hx (by simpa using hl) (World.news_of_block hB) h1 (by unfold maxLen; omega) ?_ hbase ?_
  · calc (n + 1) * bytes ≤ 1000000 * 1000000 := Nat.mul_le_mul hn hby
      _ ≤ 140737488355328 := by decide
  · intro v' w' h2 h3 _ h5
    obtain ⟨g, cap, rfl, _, hlt⟩ := h2.form (by omega)
    refine h g cap w' h2 h3 ?_ hlt
    rcases h5 with h5 | h5
    · exact .inl (by rw [← h5]; rfl)
    · right
      have : g = w.heap.size := by simpa [Value.ownBlock] using h5
      rw [this, hH]
theorem own_ne_blk {w : World} {base : Nat} {e : TypeId} {size n : Nat} {v : Value} {xs : List Value} (h : w.ownsRow base e size v n xs) {g : Nat} {t : TypeId} {cs : Array Value} (hB : Blk w g t cs) (hne : e ≠ t) : v.ownBlock ≠ some g := by
  intro he
  rcases h.2 with ⟨rfl, _⟩ | ⟨g', cap, cur, rfl, _, hg', _⟩
  · cases he
  · have : g' = g := by simpa [Value.ownBlock] using he
    subst this
    exact Blk.other (hg' : Blk w g' e cur) hB hne rfl
theorem own_cells {W : World} {base : Nat} {e : TypeId} {size n : Nat} {v : Value} {xs : List Value} (h : W.ownsRow base e size v n xs) : ∀ (j : Nat) (o : Obj), v.ownBlock = some j → W.heap[j]? = some o → o.isCells = true := by
  intro j o hj ho
  rcases h.2 with ⟨rfl, _⟩ | ⟨g, cap, cur, rfl, _, hh, _⟩
  · cases hj
  · have : g = j := by simpa [Value.ownBlock] using hj
    subst this
    rw [hh] at ho
    cases ho
    rfl
/-- a round that appends to a row in a box, and nothing else: what it keeps -/
structure AppBody (T g : Nat) (tS e : TypeId) (size n : Nat) (v' : Value) (xs : List Value) (W W' : World) : Prop where
  keeps : KeepsOthers W W'
  below : Below T W W'
  box : Blk W' g tS #[v']
  own : W'.ownsRow T e size v' n xs
  far : ∀ g' t cs, Blk W g' t cs → t ≠ e → g' ≠ g → Blk W' g' t cs
  typ : ∀ t cs, Blk W g t cs → t = tS
theorem app_pre {W W0 w5 : World} {T g : Nat} {tS e : TypeId} {size n : Nat} {v : Value} {xs : List Value} (b1 : Blk W g tS #[v]) (ho : W.ownsRow T e size v n xs) (hb0 : Below W.heap.size W W0) (hgrow1 : W0.grownBy w5 v.ownBlock) (hne : e ≠ tS) :
    Blk w5 g tS #[v] := (b1.below hb0 b1.lt).grown hgrow1 (fun h => own_ne_blk ho b1 hne h.symm)
theorem app_body {W W0 w5 : World} {T g : Nat} {tS e : TypeId} {size n gN cap : Nat} {v : Value} {xs ys : List Value} (b1 : Blk W g tS #[v]) (ho : W.ownsRow T e size v n xs) (hb0 : Below W.heap.size W W0) (hgrow1 : W0.grownBy w5 v.ownBlock)
    (hown1 : w5.ownsRow T e size (.slice (some ⟨gN, 0, none⟩) (n + 1) cap) (n + 1) ys) (hT : T ≤ W.heap.size) (hgT : T ≤ g) (hne : e ≠ tS) :
    AppBody T g tS e size (n + 1) (.slice (some ⟨gN, 0, none⟩) (n + 1) cap) ys W (w5.setCell ⟨g, 0, none⟩ (.slice (some ⟨gN, 0, none⟩) (n + 1) cap)) := by
  have hb5 := app_pre b1 ho hb0 hgrow1 hne
  have ho0 := own_kept ho hb0
  refine ⟨((keeps_belowF hb0).trans (KeepsOthers.of_grownBy hgrow1 (own_cells ho0))).trans (KeepsOthers.setCell _ _ _), ?_, hb5.put 0 _, ?_, fun g' t cs h ht hg => ?_, fun t cs h => ?_⟩
  · exact ((hb0.mono hT).grown hgrow1 (Nat.le_trans hT hb0.size) (fun k hk => (ho.lt k hk).1)).setCell (p := ⟨g, 0, none⟩) hgT _
  · exact hown1.kept (grown_put (grown_refl w5 (some g)) 0 _) (.inr (own_ne_blk hown1 hb5 hne))
  · exact ((h.below hb0 h.lt).grown hgrow1 (fun e' => own_ne_blk ho h (Ne.symm ht) e'.symm)).far (p := ⟨g, 0, none⟩) hg _
  · unfold Blk at h b1
    rw [b1] at h
    injection h with h
    injection h with _ h
    exact h.symm
theorem AppBody.keepIt {T g : Nat} {tS e : TypeId} {size n : Nat} {v' : Value} {xs : List Value} {W W' : World} (h : AppBody T g tS e size n v' xs W W') {gb : Nat} {tb te : TypeId} {v : Value} {sz : Nat} {α : Type} {E : α → List Value} {l : List α} (hb : Blk W gb tb #[v]) (hL : Lies W te sz E v l) (hl : 0 < l.length) (h1 : tb ≠ e) (h2 : gb ≠ g) (h3 : te ≠ e) (h4 : te ≠ tS) : KeepIt gb v W W' := by
  refine ⟨h.keeps.size, ?_, fun g' hg' => ?_⟩
  · have := h.far _ _ _ hb h1 h2
    unfold Blk at this hb
    rw [this, hb]
  · obtain ⟨A, c, rfl, _, _, hx⟩ := hL
    obtain ⟨g2, off, cur, rfl, hB, _⟩ := hx hl
    cases hg'
    have hne : g2 ≠ g := fun e' => by
      subst e'
      have hbx := h.box
      by_cases hk : W.heap[g2]? = none
      · unfold Blk at hB; rw [hB] at hk; cases hk
      · exact h4 (h.typ _ _ hB)
    have := h.far _ _ _ hB h3 hne
    unfold Blk at this hB
    rw [this, hB]
theorem res_cell_sl {P : Program} {fn : Func} {p : Tmp} {ty e : TypeId} (h : fn.results = #[.cell p ty]) (tmps : Array Value) (w : World) (g : Nat) (t : TypeId) (v : Value)
    (hp : tmps.getD p undef = .pointer (some ⟨g, 0, none⟩)) (hg : Blk w g t #[v]) (hu : P.underlying ty = some (.slice e)) : (results fn tmps).run P w = .ok v w := by
  have hp' : tmps[p]?.getD undef = .pointer (some ⟨g, 0, none⟩) := by simpa using hp
  have hc : w.cell? ⟨g, 0, none⟩ = some v := by have := hg.cell 0; simpa using this
  simp [results, h, hp', asAddr, loadVar, isAgg, run_underlying hu, run_load, hc]
end Sw
