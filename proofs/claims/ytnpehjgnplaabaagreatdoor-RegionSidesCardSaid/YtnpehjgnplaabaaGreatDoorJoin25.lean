/- Several texts, joined for the limit of sixty files; each one opens with its own comment. -/
import Derived.Test.YtnpehjgnplaabaaGreatDoorJoin3
import Derived.Test.YtnpehjgnplaabaaGreatDoorJoin9
import Derived.Test.YtnpehjgnplaabaaGreatDoorJoin24
import Derived.Test.YtnpehjgnplaabaaGreatDoorJoin12
import Derived.Test.YtnpehjgnplaabaaGreatDoorJoin5
import Derived.StillTail
import Derived.StillTactics
/- Several texts, joined for the limit of sixty files; each one opens with its own comment. -/
/- What a call turns, block by block. Over any program. -/
set_option linter.unusedVariables false
set_option linter.unusedSimpArgs false
namespace Sw
open Go Go.RowKit
/-- nothing that was there has turned but what F names -/
structure TurnB (F : Nat → Prop) (w w' : World) : Prop where
  os : w'.os = w.os
  tape : w'.tape = w.tape
  output : w'.output = w.output
  size : w.heap.size ≤ w'.heap.size
  block : ∀ k, k < w.heap.size → ¬ F k → w'.heap[k]? = w.heap[k]?
section
variable {F G : Nat → Prop} {a w w' : World}
theorem TurnB.refl (F : Nat → Prop) (w : World) : TurnB F w w := ⟨rfl, rfl, rfl, Nat.le_refl _, fun _ _ _ => rfl⟩
theorem TurnB.trans (h : TurnB F a w) (k : TurnB G w w') (hG : ∀ i, G i → F i ∨ a.heap.size ≤ i) : TurnB F a w' :=
  ⟨k.os.trans h.os, k.tape.trans h.tape, k.output.trans h.output, Nat.le_trans h.size k.size, fun i hi hn => (k.block i (Nat.lt_of_lt_of_le hi h.size) (fun hg => by
    rcases hG i hg with h1 | h1
    · exact hn h1
    · omega)).trans (h.block i hi hn)⟩
theorem TurnB.grown {row : Option Nat} (h : TurnB F a w) (k : w.grownBy w' row) (hr : ∀ g, row = some g → F g ∨ a.heap.size ≤ g) : TurnB F a w' :=
  ⟨k.os.trans h.os, k.tape.trans h.tape, k.output.trans h.output, Nat.le_trans h.size k.size, fun i hi hn => (k.block i (Nat.lt_of_lt_of_le hi h.size) (fun hg => by
    rcases hr i hg.symm with h1 | h1
    · exact hn h1
    · omega)).trans (h.block i hi hn)⟩
theorem TurnB.below (h : TurnB F a w) (k : Below w.heap.size w w') : TurnB F a w' := h.grown (grown_below (row := none) k) (fun g hg => by cases hg)
theorem TurnB.of_below (k : Below w.heap.size w w') : TurnB F w w' := (TurnB.refl F w).below k
theorem TurnB.alloc (h : TurnB F a w) (o : Obj) : TurnB F a (w.alloc o) := h.grown (World.grownBy_alloc w o none) (fun g hg => by cases hg)
theorem TurnB.drew (h : TurnB F a w) : TurnB F a w.drew := ⟨h.os, h.tape, h.output, h.size, h.block⟩
theorem TurnB.put (h : TurnB F a w) (p : Addr) (hp : F p.block ∨ a.heap.size ≤ p.block) (u : Value) : TurnB F a (w.setCell p u) :=
  h.trans (G := fun i => i = p.block) ⟨rfl, rfl, rfl, by simp [World.setCell], fun i hi hn => Below.heap_setCell w p u i hn⟩ (fun i hi => by rw [hi]; exact hp)
theorem TurnB.to_below {B : Nat} (h : TurnB F w w') (hB : B ≤ w.heap.size) (hF : ∀ i, F i → B ≤ i) : Below B w w' :=
  ⟨h.os, h.tape, h.output, h.size, fun k hk => h.block k (by omega) (fun hf => by have := hF k hf; omega)⟩
theorem TurnB.mono (h : TurnB F w w') (hF : ∀ i, F i → G i) : TurnB G w w' := ⟨h.os, h.tape, h.output, h.size, fun k hk hn => h.block k hk (fun hf => hn (hF k hf))⟩
theorem Blk.turnB {g : Nat} {t : TypeId} {cs : Array Value} (h : Blk w g t cs) (k : TurnB F w w') (hn : ¬ F g) : Blk w' g t cs := by
  have := k.block g h.lt hn
  unfold Blk at h ⊢
  rw [this, h]
theorem own_sameB {base : Nat} {e : TypeId} {size : Nat} {v : Value} {n : Nat} {xs : List Value} (h : w.ownsRow base e size v n xs) (hb : ∀ g, v.ownBlock = some g → w'.heap[g]? = w.heap[g]?) : w'.ownsRow base e size v n xs := by
  refine ⟨h.1, ?_⟩
  rcases h.2 with h0 | ⟨g, cap, cur, hv, hg, h1, h2⟩
  · exact .inl h0
  · exact .inr ⟨g, cap, cur, hv, hg, (hb g (by rw [hv]; rfl)).trans h1, h2⟩
theorem own_blkB {base : Nat} {e : TypeId} {size : Nat} {v : Value} {n : Nat} {xs : List Value} (h : w.ownsRow base e size v n xs) {g : Nat} (hg : v.ownBlock = some g) : ∃ cur, Blk w g e cur := by
  rcases h.2 with ⟨rfl, _⟩ | ⟨g', cap, cur, rfl, _, h1, _⟩
  · cases hg
  · cases hg
    exact ⟨cur, h1⟩
end
end Sw
/- The state of package region, in memory. -/
set_option linter.unusedVariables false
set_option linter.unusedSimpArgs false
namespace Go.Proofs.YtnpehjgnplaabaaGreatDoor
open Go Go.RowKit
open Sw
/-- the state's parts: its struct, its three maps, its two rows of paths; all from block B0 on -/
structure RgIn (B0 : Nat) (w : World) (gs bt bt2 m0 m1 mc N : Nat) (policy : Int) (pv gv : Value) (ps gr : List ByteArray) (f0 f1 fc : ByteArray → Option Value) : Prop where
  box : Blk w gs 76 #[.pointer (some ⟨bt, 0, none⟩), .pointer (some ⟨bt2, 0, none⟩), .int .i64 policy, pv, .map (some m0), .map (some m1), .map (some mc), gv]
  mA : MapV w Tryz.prog 9 litT okT m0 N f0
  mB : MapV w Tryz.prog 9 litT okT m1 N f1
  mC : MapV w Tryz.prog 9 litT okT mc N fc
  rp : w.ownsRow B0 9 1 pv ps.length (ps.map Value.string)
  rg : w.ownsRow B0 9 1 gv gr.length (gr.map Value.string)
  n01 : m0 ≠ m1
  n0c : m0 ≠ mc
  n1c : m1 ≠ mc
  apart : ∀ g, pv.ownBlock = some g → gv.ownBlock = some g → False
  bs : B0 ≤ gs
  b0 : B0 ≤ m0
  b1 : B0 ≤ m1
  bc : B0 ≤ mc
/-- what the state is made of -/
def RgF (gs m0 m1 mc : Nat) (pv gv : Value) (i : Nat) : Prop := i = gs ∨ i = m0 ∨ i = m1 ∨ i = mc ∨ pv.ownBlock = some i ∨ gv.ownBlock = some i
theorem map_noblk {α : Type} {P : Program} {k : TypeId} {lit : α → Lit} {ok : α → Prop} {w : World} {b n : Nat} {f : α → Option Value} (h : MapV w P k lit ok b n f) {e : TypeId} {cur : Array Value} : ¬ Blk w b e cur := by
  intro hb
  obtain ⟨D, ⟨es, clock, h0, _⟩, _⟩ := h
  unfold Blk at hb
  rw [hb] at h0
  cases h0
section
variable {B0 : Nat} {w w' : World} {gs bt bt2 m0 m1 mc N : Nat} {policy : Int} {pv gv : Value} {ps gr : List ByteArray} {f0 f1 fc : ByteArray → Option Value}
theorem RgIn.low (h : RgIn B0 w gs bt bt2 m0 m1 mc N policy pv gv ps gr f0 f1 fc) : ∀ i, RgF gs m0 m1 mc pv gv i → B0 ≤ i := fun i hi => by
  rcases hi with rfl | rfl | rfl | rfl | hi | hi
  · exact h.bs
  · exact h.b0
  · exact h.b1
  · exact h.bc
  · exact (h.rp.lt i hi).1
  · exact (h.rg.lt i hi).1
theorem RgIn.lt (h : RgIn B0 w gs bt bt2 m0 m1 mc N policy pv gv ps gr f0 f1 fc) : ∀ i, RgF gs m0 m1 mc pv gv i → i < w.heap.size := fun i hi => by
  rcases hi with rfl | rfl | rfl | rfl | hi | hi
  · exact h.box.lt
  · exact h.mA.lt
  · exact h.mB.lt
  · exact h.mC.lt
  · exact (h.rp.lt i hi).2
  · exact (h.rg.lt i hi).2
theorem RgIn.neA (h : RgIn B0 w gs bt bt2 m0 m1 mc N policy pv gv ps gr f0 f1 fc) : gs ≠ m0 := fun e => map_noblk h.mA (e ▸ h.box)
theorem RgIn.neB (h : RgIn B0 w gs bt bt2 m0 m1 mc N policy pv gv ps gr f0 f1 fc) : gs ≠ m1 := fun e => map_noblk h.mB (e ▸ h.box)
theorem RgIn.neC (h : RgIn B0 w gs bt bt2 m0 m1 mc N policy pv gv ps gr f0 f1 fc) : gs ≠ mc := fun e => map_noblk h.mC (e ▸ h.box)
theorem RgIn.neP (h : RgIn B0 w gs bt bt2 m0 m1 mc N policy pv gv ps gr f0 f1 fc) {g : Nat} (hg : pv.ownBlock = some g) : g ≠ gs ∧ g ≠ m0 ∧ g ≠ m1 ∧ g ≠ mc := by
  obtain ⟨cur, hc⟩ := own_blkB h.rp hg
  exact ⟨fun e => Blk.other hc h.box (by decide) (by rw [e]), fun e => map_noblk h.mA (e ▸ hc), fun e => map_noblk h.mB (e ▸ hc), fun e => map_noblk h.mC (e ▸ hc)⟩
theorem RgIn.neG (h : RgIn B0 w gs bt bt2 m0 m1 mc N policy pv gv ps gr f0 f1 fc) {g : Nat} (hg : gv.ownBlock = some g) : g ≠ gs ∧ g ≠ m0 ∧ g ≠ m1 ∧ g ≠ mc := by
  obtain ⟨cur, hc⟩ := own_blkB h.rg hg
  exact ⟨fun e => Blk.other hc h.box (by decide) (by rw [e]), fun e => map_noblk h.mA (e ▸ hc), fun e => map_noblk h.mB (e ▸ hc), fun e => map_noblk h.mC (e ▸ hc)⟩
theorem RgIn.same (h : RgIn B0 w gs bt bt2 m0 m1 mc N policy pv gv ps gr f0 f1 fc) (hb : ∀ i, RgF gs m0 m1 mc pv gv i → w'.heap[i]? = w.heap[i]?) : RgIn B0 w' gs bt bt2 m0 m1 mc N policy pv gv ps gr f0 f1 fc :=
  ⟨(hb _ (.inl rfl)).trans h.box, h.mA.same (hb _ (.inr (.inl rfl))), h.mB.same (hb _ (.inr (.inr (.inl rfl)))), h.mC.same (hb _ (.inr (.inr (.inr (.inl rfl))))), own_sameB h.rp (fun g hg => hb g (.inr (.inr (.inr (.inr (.inl hg)))))), own_sameB h.rg (fun g hg => hb g (.inr (.inr (.inr (.inr (.inr hg)))))), h.n01, h.n0c, h.n1c, h.apart, h.bs, h.b0, h.b1, h.bc⟩
theorem RgIn.below (h : RgIn B0 w gs bt bt2 m0 m1 mc N policy pv gv ps gr f0 f1 fc) (hb : Below w.heap.size w w') : RgIn B0 w' gs bt bt2 m0 m1 mc N policy pv gv ps gr f0 f1 fc := h.same fun i hi => hb.block i (h.lt i hi)
theorem RgIn.turn {G : Nat → Prop} (h : RgIn B0 w gs bt bt2 m0 m1 mc N policy pv gv ps gr f0 f1 fc) (k : TurnB G w w') (hd : ∀ i, RgF gs m0 m1 mc pv gv i → ¬ G i) : RgIn B0 w' gs bt bt2 m0 m1 mc N policy pv gv ps gr f0 f1 fc := h.same fun i hi => k.block i (h.lt i hi) (hd i hi)
/-- the two maps of the nodes have turned -/
theorem RgIn.maps (h : RgIn B0 w gs bt bt2 m0 m1 mc N policy pv gv ps gr f0 f1 fc) (k : TurnB (fun i => i = m0 ∨ i = m1) w w') {M : Nat} (hM : N ≤ M) {g0 g1 : ByteArray → Option Value} (hA : MapV w' Tryz.prog 9 litT okT m0 M g0) (hB : MapV w' Tryz.prog 9 litT okT m1 M g1) : RgIn B0 w' gs bt bt2 m0 m1 mc M policy pv gv ps gr g0 g1 fc := by
  have hb : ∀ i, i < w.heap.size → i ≠ m0 → i ≠ m1 → w'.heap[i]? = w.heap[i]? := fun i hi h0 h1 => k.block i hi (fun hf => hf.elim h0 h1)
  exact ⟨(hb _ h.box.lt h.neA h.neB).trans h.box, hA, hB, (h.mC.same (hb _ h.mC.lt h.n0c.symm h.n1c.symm)).mono hM, own_sameB h.rp (fun g hg => hb g (h.rp.lt g hg).2 (h.neP hg).2.1 (h.neP hg).2.2.1), own_sameB h.rg (fun g hg => hb g (h.rg.lt g hg).2 (h.neG hg).2.1 (h.neG hg).2.2.1), h.n01, h.n0c, h.n1c, h.apart, h.bs, h.b0, h.b1, h.bc⟩
/-- the map of the clashes has turned -/
theorem RgIn.clash (h : RgIn B0 w gs bt bt2 m0 m1 mc N policy pv gv ps gr f0 f1 fc) (k : w.grownBy w' (some mc)) {M : Nat} (hM : N ≤ M) {gc : ByteArray → Option Value} (hC : MapV w' Tryz.prog 9 litT okT mc M gc) : RgIn B0 w' gs bt bt2 m0 m1 mc M policy pv gv ps gr f0 f1 gc := by
  have hb : ∀ i, i < w.heap.size → i ≠ mc → w'.heap[i]? = w.heap[i]? := fun i hi h0 => k.block i hi (by simpa using h0)
  exact ⟨(hb _ h.box.lt h.neC).trans h.box, (h.mA.same (hb _ h.mA.lt h.n0c)).mono hM, (h.mB.same (hb _ h.mB.lt h.n1c)).mono hM, hC, own_sameB h.rp (fun g hg => hb g (h.rp.lt g hg).2 (h.neP hg).2.2.2), own_sameB h.rg (fun g hg => hb g (h.rg.lt g hg).2 (h.neG hg).2.2.2), h.n01, h.n0c, h.n1c, h.apart, h.bs, h.b0, h.b1, h.bc⟩
end
end Go.Proofs.YtnpehjgnplaabaaGreatDoor
/- A region that draws its order, walked in an order of one's own: an operation that yields the same in all worlds of a class may go first; any other one must be the only one that is ready. Over any program. -/
set_option linter.unusedVariables false
set_option linter.unusedSimpArgs false
namespace Sw
open Go
/-- Q where the region goes on, else nothing -/
def OnlyN (Q : Exit → Act → World → Prop) : Exit → Act → World → Prop
  | .normal, a, w => Q .normal a w
  | _, _, _ => False
theorem OnlyN.imp {Q : Exit → Act → World → Prop} : ∀ (e : Exit) (a : Act) (w : World), OnlyN Q e a w → Q e a w := fun e a w h => by
  cases e <;> first | exact h | exact (h : False).elim
theorem OnlyN.out {Q : Exit → Act → World → Prop} : ¬ LetsOut (OnlyN Q) := fun ⟨_, _, h⟩ => h
section
variable {P : Program} {ops : Array Oper} {md : Region.Mode} {Q : Exit → Act → World → Prop} {C : World → Prop}
def anyC (P : Program) (md : Region.Mode) (ops : Array Oper) (C : World → Prop) (Q : Exit → Act → World → Prop) : Nat → Array Bool → Act → World → Prop
  | 0, listed, a, w => C w ∧ Region.ready md ops listed = [] ∧ Q .normal a w
  | f + 1, listed, a, w => C w ∧ Region.ready md ops listed ≠ [] ∧ ∀ i ∈ Region.ready md ops listed, wpOp P ops (OnlyN Q) i (anyC P md ops C Q f (listed.setIfInBounds i true)) a w
theorem anyC_C : ∀ {f : Nat} {listed : Array Bool} {a : Act} {w : World}, anyC P md ops C Q f listed a w → C w
  | 0, _, _, _, h => h.1
  | _ + 1, _, _, _, h => h.1
theorem wpAny_of_anyC : ∀ (f : Nat) (listed : Array Bool) (a : Act) (w : World), anyC P md ops C Q f listed a w → wpAny P md ops (OnlyN Q) f listed a w
  | 0, _, _, _, h => h.2
  | f + 1, listed, a, w, h => ⟨fun h0 => absurd h0 h.2.1, fun i hi => wpOp_mono (fun a w => wpAny_of_anyC f _ a w) (h.2.2 i hi)⟩
theorem upon_put {oj : Oper} {K K' : Act → World → Prop} {a b : Act} (hK : ∀ ds u w', K (({ b with defers := ds ++ b.defers } : Act).put oj.dst u) w' → K' (({ a with defers := ds ++ a.defers } : Act).put oj.dst u) w') : ∀ r : Result Next, oj.upon P b K (OnlyN Q) r → oj.upon P a K' (OnlyN Q) r := fun r h => by
  have h0 : ∀ u w', K (b.put oj.dst u) w' → K' (a.put oj.dst u) w' := fun u w' => hK [] u w'
  cases r with
  | ok n w' =>
    cases n <;> simp only [Oper.upon] at h ⊢
    case value u => exact h0 u w' h
    case skip => exact h0 _ w' h
    case defer d => exact hK [d] _ w' h
    case enter f args => exact Calls.mono h (fun e w'' he => by cases e <;> first | exact h0 _ _ he | exact he)
    case row row args => exact Rows.mono h (fun v w'' he => h0 _ _ he)
  | halt x w' => cases x <;> simp only [Oper.upon] at h ⊢ <;> exact h
theorem wpOp_put {j : Nat} {oi oj : Oper} {v : Value} {a : Act} {w : World} (hj : ops[j]? = some oj) (hap : oi.apart ops oj = true) (hsj : ∀ cs b, oj.op ≠ .select cs b)
    {K K' : Act → World → Prop} (hK : ∀ ds u w', K ((({ a with defers := ds ++ a.defers } : Act).put oj.dst u).put oi.dst v) w' → K' (({ a with defers := ds ++ a.defers } : Act).put oj.dst u) w')
    (h : wpOp P ops (OnlyN Q) j K (a.put oi.dst v) w) : wpOp P ops (OnlyN Q) j K' a w := by
  obtain ⟨h1, h2, h3⟩ := Oper.apart_spec hap
  unfold wpOp at *
  simp only [hj] at *
  rw [wanted_put oj a oi.dst v h1] at h
  have hpd : ∀ (ds : List Deferred) (b : Act) (x : Option Tmp) (u : Value), ({ b.put x u with defers := ds } : Act) = ({ b with defers := ds } : Act).put x u := fun ds b x u => by cases x <;> rfl
  have hdd : ∀ (b : Act) (x : Option Tmp) (u : Value), (b.put x u).defers = b.defers := fun b x u => by cases x <;> rfl
  split
  · rename_i hw
    rw [if_pos hw] at h
    rcases h with h | h
    · left
      unfold Oper.wp at *
      rw [execOp_put oj hsj a oi.dst v h1] at h
      refine upon_put (fun ds u w' hk => hK ds u w' ?_) _ h
      rw [hpd, hdd] at hk
      rw [Act.put_comm _ v u h2] at hk
      exact hk
    · exact absurd h.2 OnlyN.out
  · rename_i hw
    rw [if_neg hw] at h
    refine hK [] undef w ?_
    rw [← Act.put_comm _ v undef h2]
    exact h
theorem anyC_first {i : Nat} {oi : Oper} {v : Value} (hi : ops[i]? = some oi) (hsel : ∀ (j : Nat) (o : Oper) cs b, ops[j]? = some o → o.op ≠ .select cs b) :
    ∀ (f : Nat) (listed : Array Bool) (a : Act) (w : World),
      (∀ j oj, ops[j]? = some oj → j ≠ i → listed.getD j true = false → (∀ e ∈ oj.after, Region.binds md e = true → e.on ≠ i) → oi.apart ops oj = true) →
      i ∈ Region.ready md ops listed → C w → (∀ W, C W → ∃ v', YieldsAt P ops W oi v' a ∧ a.put oi.dst v' = a.put oi.dst v) →
      anyC P md ops C Q f (listed.setIfInBounds i true) (a.put oi.dst v) w → anyC P md ops C Q (f + 1) listed a w := by
  intro f
  induction f with
  | zero =>
    intro listed a w _ hr hC hy H
    refine ⟨hC, fun h => (by rw [h] at hr; cases hr), fun j hj => ?_⟩
    by_cases hji : j = i
    · subst hji
      obtain ⟨v', hy1, hy2⟩ := hy w hC
      exact wpOp_of_stOp (fun a' h' => h') (hy1.stOp (K := fun a' => anyC P md ops C Q 0 (listed.setIfInBounds j true) a' w) hi (by rw [hy2]; exact H))
    · have := ready_mono hj hji
      rw [H.2.1] at this
      cases this
  | succ f ih =>
    intro listed a w hfree hr hC hy H
    have hun := (mem_ready.1 hr).1
    refine ⟨hC, fun h => (by rw [h] at hr; cases hr), fun j hj => ?_⟩
    by_cases hji : j = i
    · subst hji
      obtain ⟨v', hy1, hy2⟩ := hy w hC
      exact wpOp_of_stOp (fun a' h' => h') (hy1.stOp (K := fun a' => anyC P md ops C Q (f + 1) (listed.setIfInBounds j true) a' w) hi (by rw [hy2]; exact H))
    · have h1 := H.2.2 j (ready_mono hj hji)
      obtain ⟨hjun, oj, hoj, hall⟩ := mem_ready.1 hj
      have hnot : ∀ e ∈ oj.after, Region.binds md e = true → e.on ≠ i := fun e he hb heq => by
        have h1 := hall e he hb
        rw [heq, getD_both hun] at h1
        cases h1
      have hap := hfree j oj hoj hji hjun hnot
      have hap3 := (Oper.apart_spec hap)
      refine wpOp_put hoj hap (fun cs b => hsel j oj cs b hoj) (fun ds u w' hk => ?_) h1
      refine ih (listed.setIfInBounds j true) _ w' (fun k ok hk' hki hunk hno => hfree k ok hk' hki (by
        by_cases hjk : j = k
        · subst hjk; exact hjun
        · rw [getD_set_ne true hjk] at hunk; exact hunk) hno) (ready_mono hr (Ne.symm hji)) (anyC_C hk) (fun W hW => ?_) (by rw [Array.setIfInBounds_comm _ _ hji]; exact hk)
      obtain ⟨v', hy1, hy2⟩ := hy W hW
      refine ⟨v', hy1.of_same ?_ ?_, ?_⟩
      · exact execOp_put oi (fun cs b => hsel i oi cs b hi) ({ a with defers := ds ++ a.defers } : Act) oj.dst u hap3.2.2
      · exact wanted_put oi ({ a with defers := ds ++ a.defers } : Act) oj.dst u hap3.2.2
      · have hb : ∀ x, ({ a with defers := ds ++ a.defers } : Act).put oi.dst x = { a.put oi.dst x with defers := ds ++ a.defers } := fun x => by cases oi.dst <;> rfl
        rw [← Act.put_comm _ v' u hap3.2.1, ← Act.put_comm _ v u hap3.2.1, hb, hb, hy2]
/-- the walk in an order of one's own: 'true': yields the same in the class; 'false': forced -/
def mixC (P : Program) (ops : Array Oper) (C : World → Prop) (Q : Exit → Act → World → Prop) : List (Oper × Bool) → Act → World → Prop
  | [], a, w => C w ∧ Q .normal a w
  | (o, true) :: r, a, w => ∃ A1, (∀ m : Held C, wpStill P ops (HeldW m) (fun a' => a' = A1) [o] a) ∧ C w ∧ mixC P ops C Q r A1 w
  | (o, false) :: r, a, w => C w ∧ wpList P ops (OnlyN fun _ a' w' => mixC P ops C Q r a' w') [o] a w
def permB (md : Region.Mode) (ops : Array Oper) : List (Nat × Bool) → Array Bool → Bool
  | [], listed => (Region.ready md ops listed).isEmpty
  | (i, true) :: r, listed => (Region.ready md ops listed).contains i && Region.free md ops listed i && permB md ops r (listed.setIfInBounds i true)
  | (i, false) :: r, listed => decide (Region.ready md ops listed = [i]) && permB md ops r (listed.setIfInBounds i true)
def pickP (ops : Array Oper) (perm : List (Nat × Bool)) : List (Oper × Bool) := perm.filterMap fun p => (ops[p.1]?).map fun o => (o, p.2)
theorem anyC_of_mix (hs : Region.noSelect ops = true) : ∀ (perm : List (Nat × Bool)) (listed : Array Bool) (a : Act) (w : World), permB md ops perm listed = true → mixC P ops C Q (pickP ops perm) a w → anyC P md ops C Q perm.length listed a w
  | [], listed, a, w, hB, h => ⟨h.1, by simpa [permB] using hB, h.2⟩
  | (i, true) :: r, listed, a, w, hB, h => by
    simp only [permB, Bool.and_eq_true] at hB
    obtain ⟨⟨hr, hf⟩, hB'⟩ := hB
    have hr' : i ∈ Region.ready md ops listed := by simpa using hr
    obtain ⟨_, o, ho, _⟩ := mem_ready.1 hr'
    have e : pickP ops ((i, true) :: r) = (o, true) :: pickP ops r := by unfold pickP; simp [ho]
    rw [e] at h
    obtain ⟨A1, hv, hC, hm⟩ := h
    have hst : ∀ W, C W → ∃ v', YieldsAt P ops W o v' a ∧ a.put o.dst v' = A1 := fun W hW => by
      have h1 : stOp P ops W i (fun a' => a' = A1) a := by unfold stOp; simp only [ho]; exact hv ⟨W, hW⟩
      exact yieldsAt_of_stOp ho h1
    obtain ⟨v, _, rfl⟩ := hst w hC
    exact anyC_first ho (Region.noSelect_spec hs) r.length listed a w (Region.free_spec ho hf) hr' hC hst (anyC_of_mix hs r _ _ w hB' hm)
  | (i, false) :: r, listed, a, w, hB, h => by
    simp only [permB, Bool.and_eq_true, decide_eq_true_eq] at hB
    obtain ⟨hr, hB'⟩ := hB
    have hr' : i ∈ Region.ready md ops listed := by rw [hr]; simp
    obtain ⟨_, o, ho, _⟩ := mem_ready.1 hr'
    have e : pickP ops ((i, false) :: r) = (o, false) :: pickP ops r := by unfold pickP; simp [ho]
    rw [e] at h
    obtain ⟨hC, hw⟩ := h
    refine ⟨hC, by rw [hr]; simp, fun j hj => ?_⟩
    rw [hr] at hj
    obtain rfl : j = i := by simpa using hj
    have hgo : ∀ (a' : Act) (w' : World), mixC P ops C Q (pickP ops r) a' w' → anyC P md ops C Q r.length (listed.setIfInBounds j true) a' w' := fun a' w' hm => anyC_of_mix hs r _ a' w' hB' hm
    unfold wpOp
    simp only [ho]
    simp only [wpList] at hw
    split
    · rename_i hwt
      rw [if_pos hwt] at hw
      rcases hw with hw | hw
      · left
        unfold Oper.wp at *
        generalize (execOp a.eval o).run P w = res at *
        cases res with
        | ok n w' =>
          cases n <;> simp only [Oper.upon] at hw ⊢
          case value u => exact hgo _ _ hw
          case skip => exact hgo _ _ hw
          case defer d => exact hgo _ _ hw
          case enter f args => exact Calls.mono hw (fun e w'' he => by
            cases e
            · exact hgo _ _ he
            · exact he
            · exact absurd he OnlyN.out)
          case row row args => exact Rows.mono hw (fun v w'' he => hgo _ _ he)
        | halt x w' => cases x <;> simp only [Oper.upon] at hw ⊢ <;> exact hw
      · exact absurd hw.2 OnlyN.out
    · rename_i hwt
      rw [if_neg hwt] at hw
      exact hgo _ _ hw
end
theorem wp_region_mix {P : Program} (C : World → Prop) (perm : List (Nat × Bool)) {id : Nat} {Q : Exit → Act → World → Prop} {a : Act} {w : World} {l : List Oper} (hm : P.follows .mixedOrders = true)
    (hB : (Region.noSelect l.toArray && decide (perm.length = l.length) && permB .any l.toArray perm (Array.replicate l.length false)) = true)
    (h : mixC P l.toArray C Q (pickP l.toArray perm) a w.drew) : (Code.region id l.toArray true).wp P Q a w := by
  simp only [Bool.and_eq_true, decide_eq_true_eq] at hB
  obtain ⟨⟨hs, hl⟩, hp⟩ := hB
  refine Code.wp_mono OnlyN.imp (wp_region_any hm (wpAny_of_anyC (C := C) _ _ _ _ ?_))
  have := anyC_of_mix (C := C) (Q := Q) hs perm (Array.replicate l.length false) a w.drew hp h
  rw [hl] at this
  simpa using this
theorem mix_nil {P : Program} {ops : Array Oper} {C : World → Prop} {Q : Exit → Act → World → Prop} {a : Act} {w : World} (hC : C w) (h : Q .normal a w) : mixC P ops C Q [] a w := ⟨hC, h⟩
theorem still_of_quiet {P : Program} {ops : Array Oper} {o : Oper} {a A1 : Act} {W : World} (h : wpQuiet P ops (fun w' => ∃ _ : Unit, w' = W) (fun a' => a' = A1) [o] a) : wpStill P ops W (fun a' => a' = A1) [o] a := by
  simp only [wpQuiet, wpStill] at *
  split
  · rename_i hw
    rw [if_pos hw] at h
    obtain ⟨v, h1, h2⟩ := h
    have h3 := h1 W ⟨(), rfl⟩
    unfold Oper.quietAt at h3
    unfold Oper.still
    generalize (execOp a.eval o).run P W = r at *
    cases r with
    | ok n w' =>
      cases n <;> simp only [Oper.quietUpon] at h3 <;> simp only [Oper.stillUpon]
      case value u => exact ⟨h3.1, by rw [h3.2]; exact h2⟩
      case skip => exact ⟨h3.1, by rw [← h3.2]; exact h2⟩
      case enter f args => exact ⟨h3.1, v, h3.2.mono fun e w'' he => ⟨he.1, by obtain ⟨_, h⟩ := he.2; exact h⟩, h2⟩
    | halt x w' => simp only [Oper.quietUpon] at h3
  · rename_i hw
    rw [if_neg hw] at h
    exact h
theorem mix_first {P : Program} {ops : Array Oper} {C : World → Prop} {Q : Exit → Act → World → Prop} {o : Oper} {r : List (Oper × Bool)} {a : Act} {w : World}
    (h : ∃ A1, (∀ m : Held C, wpQuiet P ops (fun w' => ∃ _ : Unit, w' = HeldW m) (fun a' => a' = A1) [o] a) ∧ C w ∧ mixC P ops C Q r A1 w) : mixC P ops C Q ((o, true) :: r) a w := by
  obtain ⟨A1, h1, h2, h3⟩ := h
  exact ⟨A1, fun m => still_of_quiet (h1 m), h2, h3⟩
theorem mix_forced {P : Program} {ops : Array Oper} {C : World → Prop} {Q : Exit → Act → World → Prop} {o : Oper} {r : List (Oper × Bool)} {a : Act} {w : World} (hC : C w)
    (h : wpList P ops (OnlyN fun _ a' w' => mixC P ops C Q r a' w') [o] a w) : mixC P ops C Q ((o, false) :: r) a w := ⟨hC, h⟩
end Sw
/- As XChain, but the class of worlds need not hold behind the last operation (a store that ends what the class says). Over any program. -/
set_option linter.unusedVariables false
set_option linter.unusedSimpArgs false
namespace Sw
open Go
section
variable {P : Program} {ops : Array Oper} {md : Region.Mode} {Q : Exit → Act → World → Prop} {C : World → Prop}
/-- whatever is listed, all that it waits for is listed -/
def DownB (md : Region.Mode) (ops : Array Oper) (listed : Array Bool) : Prop := ∀ (k : Nat) (ok : Oper), ops[k]? = some ok → listed.getD k false = true → ∀ e ∈ ok.after, Region.binds md e = true → listed.getD e.on false = true
theorem DownB.add {listed : Array Bool} (h : DownB md ops listed) {i : Nat} (hi : i ∈ Region.ready md ops listed) : DownB md ops (listed.setIfInBounds i true) := by
  intro k ok hk hl e he hb
  by_cases hki : i = k
  · subst hki
    obtain ⟨_, o, ho, hall⟩ := mem_ready.1 hi
    rw [hk] at ho
    cases ho
    exact getD_set_true (hall e he hb)
  · rw [getD_set_ne false hki] at hl
    exact getD_set_true (h k ok hk hl e he hb)
def anyD (P : Program) (md : Region.Mode) (ops : Array Oper) (C : World → Prop) (Q : Exit → Act → World → Prop) : Nat → Array Bool → Act → World → Prop
  | 0, listed, a, w => (∀ j, listed.getD j true = true) ∧ Q .normal a w
  | f + 1, listed, a, w => C w ∧ Region.ready md ops listed ≠ [] ∧ ∀ i ∈ Region.ready md ops listed, wpOp P ops (OnlyN Q) i (anyD P md ops C Q f (listed.setIfInBounds i true)) a w
theorem wpAny_of_anyD : ∀ (f : Nat) (listed : Array Bool) (a : Act) (w : World), anyD P md ops C Q f listed a w → wpAny P md ops (OnlyN Q) f listed a w
  | 0, listed, a, w, h => ⟨by
      rw [List.eq_nil_iff_forall_not_mem]
      intro j hj
      have := (mem_ready.1 hj).1
      rw [h.1 j] at this
      exact absurd this (by decide), h.2⟩
  | f + 1, listed, a, w, h => ⟨fun h0 => absurd h0 h.2.1, fun i hi => wpOp_mono (fun a w => wpAny_of_anyD f _ a w) (h.2.2 i hi)⟩
theorem anyD_first {i : Nat} {oi : Oper} {v : Value} (hi : ops[i]? = some oi) (hsel : ∀ (j : Nat) (o : Oper) cs b, ops[j]? = some o → o.op ≠ .select cs b)
    (hdep : ∃ (k : Nat) (ok : Oper), ops[k]? = some ok ∧ k ≠ i ∧ ∃ e ∈ ok.after, Region.binds md e = true ∧ e.on = i) :
    ∀ (f : Nat) (listed : Array Bool) (a : Act) (w : World),
      (∀ j oj, ops[j]? = some oj → j ≠ i → listed.getD j true = false → (∀ e ∈ oj.after, Region.binds md e = true → e.on ≠ i) → oi.apart ops oj = true) →
      DownB md ops listed → ops.size ≤ listed.size → i ∈ Region.ready md ops listed → C w → (∀ W, C W → ∃ v', YieldsAt P ops W oi v' a ∧ a.put oi.dst v' = a.put oi.dst v) →
      anyD P md ops C Q f (listed.setIfInBounds i true) (a.put oi.dst v) w → anyD P md ops C Q (f + 1) listed a w := by
  intro f
  induction f with
  | zero =>
    intro listed a w _ hdn hsz hr hC hy H
    refine ⟨hC, fun h => (by rw [h] at hr; cases hr), fun j hj => ?_⟩
    by_cases hji : j = i
    · subst hji
      obtain ⟨v', hy1, hy2⟩ := hy w hC
      exact wpOp_of_stOp (fun a' h' => h') (hy1.stOp (K := fun a' => anyD P md ops C Q 0 (listed.setIfInBounds j true) a' w) hi (by rw [hy2]; exact H))
    · have h1 := (mem_ready.1 hj).1
      have h2 := H.1 j
      rw [getD_set_ne true (Ne.symm hji)] at h2
      rw [h1] at h2
      cases h2
  | succ f ih =>
    intro listed a w hfree hdn hsz hr hC hy H
    have hun := (mem_ready.1 hr).1
    refine ⟨hC, fun h => (by rw [h] at hr; cases hr), fun j hj => ?_⟩
    by_cases hji : j = i
    · subst hji
      obtain ⟨v', hy1, hy2⟩ := hy w hC
      exact wpOp_of_stOp (fun a' h' => h') (hy1.stOp (K := fun a' => anyD P md ops C Q (f + 1) (listed.setIfInBounds j true) a' w) hi (by rw [hy2]; exact H))
    · have h1 := H.2.2 j (ready_mono hj hji)
      obtain ⟨hjun, oj, hoj, hall⟩ := mem_ready.1 hj
      have hnot : ∀ e ∈ oj.after, Region.binds md e = true → e.on ≠ i := fun e he hb heq => by
        have h1 := hall e he hb
        rw [heq, getD_both hun] at h1
        cases h1
      have hap := hfree j oj hoj hji hjun hnot
      have hap3 := (Oper.apart_spec hap)
      refine wpOp_put hoj hap (fun cs b => hsel j oj cs b hoj) (fun ds u w' hk => ?_) h1
      have hCw : C w' := by
        cases f with
        | succ f => exact hk.1
        | zero =>
          exfalso
          obtain ⟨k, ok, hok, hki, e, he, hb, heo⟩ := hdep
          by_cases hkj : k = j
          · subst hkj
            rw [hoj] at hok
            cases hok
            exact hnot e he hb heo
          · have h2 := hk.1 k
            rw [getD_set_ne true (Ne.symm hkj), getD_set_ne true (Ne.symm hki)] at h2
            rcases Nat.lt_or_ge k listed.size with hks | hks
            · have h3 : listed.getD k false = true := by
                rw [Array.getD_eq_getD_getElem?, Array.getElem?_eq_getElem hks] at h2 ⊢
                simpa using h2
              have h4 := hdn k ok hok h3 e he hb
              rw [heo, getD_both hun] at h4
              cases h4
            · -- an operation that is not counted
              have h5 : k < ops.size := (Array.getElem?_eq_some_iff.1 hok).1
              omega
      refine ih (listed.setIfInBounds j true) _ w' (fun k ok hk' hki hunk hno => hfree k ok hk' hki (by
        by_cases hjk : j = k
        · subst hjk; exact hjun
        · rw [getD_set_ne true hjk] at hunk; exact hunk) hno) (hdn.add hj) (by rw [Array.size_setIfInBounds]; exact hsz) (ready_mono hr (Ne.symm hji)) hCw (fun W hW => ?_) (by rw [Array.setIfInBounds_comm _ _ hji]; exact hk)
      obtain ⟨v', hy1, hy2⟩ := hy W hW
      refine ⟨v', hy1.of_same ?_ ?_, ?_⟩
      · exact execOp_put oi (fun cs b => hsel i oi cs b hi) ({ a with defers := ds ++ a.defers } : Act) oj.dst u hap3.2.2
      · exact wanted_put oi ({ a with defers := ds ++ a.defers } : Act) oj.dst u hap3.2.2
      · have hb : ∀ x, ({ a with defers := ds ++ a.defers } : Act).put oi.dst x = { a.put oi.dst x with defers := ds ++ a.defers } := fun x => by cases oi.dst <;> rfl
        rw [← Act.put_comm _ v' u hap3.2.1, ← Act.put_comm _ v u hap3.2.1, hb, hb, hy2]
/-- the walk in an order of one's own: 'true': yields the same in the class; 'false': forced -/
def mixD (P : Program) (ops : Array Oper) (C : World → Prop) (Q : Exit → Act → World → Prop) : List (Oper × Bool) → Act → World → Prop
  | [], a, w => Q .normal a w
  | (o, true) :: r, a, w => ∃ A1, (∀ m : Held C, wpStill P ops (HeldW m) (fun a' => a' = A1) [o] a) ∧ C w ∧ mixD P ops C Q r A1 w
  | (o, false) :: r, a, w => C w ∧ wpList P ops (OnlyN fun _ a' w' => mixD P ops C Q r a' w') [o] a w
/-- something waits for operation i -/
def awaited (md : Region.Mode) (ops : Array Oper) (i : Nat) : Bool := (List.range ops.size).any fun k => decide (k ≠ i) && (match ops[k]? with | some ok => ok.after.any fun e => Region.binds md e && decide (e.on = i) | none => false)
theorem awaited_spec {i : Nat} (h : awaited md ops i = true) : ∃ (k : Nat) (ok : Oper), ops[k]? = some ok ∧ k ≠ i ∧ ∃ e ∈ ok.after, Region.binds md e = true ∧ e.on = i := by
  unfold awaited at h
  obtain ⟨k, _, hk⟩ := List.any_eq_true.1 h
  simp only [Bool.and_eq_true, decide_eq_true_eq] at hk
  obtain ⟨hne, hk⟩ := hk
  cases ho : ops[k]? with
  | none => rw [ho] at hk; cases hk
  | some ok =>
    rw [ho] at hk
    obtain ⟨e, he, hb⟩ := Array.any_eq_true'.1 hk
    simp only [Bool.and_eq_true, decide_eq_true_eq] at hb
    exact ⟨k, ok, ho, hne, e, he, hb.1, hb.2⟩
def permD (md : Region.Mode) (ops : Array Oper) : List (Nat × Bool) → Array Bool → Bool
  | [], listed => listed.all id
  | (i, true) :: r, listed => (Region.ready md ops listed).contains i && Region.free md ops listed i && awaited md ops i && permD md ops r (listed.setIfInBounds i true)
  | (i, false) :: r, listed => decide (Region.ready md ops listed = [i]) && permD md ops r (listed.setIfInBounds i true)
theorem anyD_of_mix (hs : Region.noSelect ops = true) : ∀ (perm : List (Nat × Bool)) (listed : Array Bool) (a : Act) (w : World), DownB md ops listed → ops.size ≤ listed.size → permD md ops perm listed = true → mixD P ops C Q (pickP ops perm) a w → anyD P md ops C Q perm.length listed a w
  | [], listed, a, w, _, _, hB, h => ⟨fun j => by
      simp only [permD] at hB
      rcases Nat.lt_or_ge j listed.size with hj | hj
      · rw [Array.getD_eq_getD_getElem?, Array.getElem?_eq_getElem hj]
        have := Array.all_eq_true.1 hB j hj
        simpa using this
      · rw [Array.getD_eq_getD_getElem?, Array.getElem?_eq_none hj]
        rfl, h⟩
  | (i, true) :: r, listed, a, w, hdn, hsz, hB, h => by
    simp only [permD, Bool.and_eq_true] at hB
    obtain ⟨⟨⟨hr, hf⟩, haw⟩, hB'⟩ := hB
    have hr' : i ∈ Region.ready md ops listed := by simpa using hr
    obtain ⟨_, o, ho, _⟩ := mem_ready.1 hr'
    have e : pickP ops ((i, true) :: r) = (o, true) :: pickP ops r := by unfold pickP; simp [ho]
    rw [e] at h
    obtain ⟨A1, hv, hC, hm⟩ := h
    have hst : ∀ W, C W → ∃ v', YieldsAt P ops W o v' a ∧ a.put o.dst v' = A1 := fun W hW => by
      have h1 : stOp P ops W i (fun a' => a' = A1) a := by unfold stOp; simp only [ho]; exact hv ⟨W, hW⟩
      exact yieldsAt_of_stOp ho h1
    obtain ⟨v, _, rfl⟩ := hst w hC
    exact anyD_first ho (Region.noSelect_spec hs) (awaited_spec haw) r.length listed a w (Region.free_spec ho hf) hdn hsz hr' hC hst (anyD_of_mix hs r _ _ w (hdn.add hr') (by rw [Array.size_setIfInBounds]; exact hsz) hB' hm)
  | (i, false) :: r, listed, a, w, hdn, hsz, hB, h => by
    simp only [permD, Bool.and_eq_true, decide_eq_true_eq] at hB
    obtain ⟨hr, hB'⟩ := hB
    have hr' : i ∈ Region.ready md ops listed := by rw [hr]; simp
    obtain ⟨_, o, ho, _⟩ := mem_ready.1 hr'
    have e : pickP ops ((i, false) :: r) = (o, false) :: pickP ops r := by unfold pickP; simp [ho]
    rw [e] at h
    obtain ⟨hC, hw⟩ := h
    refine ⟨hC, by rw [hr]; simp, fun j hj => ?_⟩
    rw [hr] at hj
    obtain rfl : j = i := by simpa using hj
    have hgo : ∀ (a' : Act) (w' : World), mixD P ops C Q (pickP ops r) a' w' → anyD P md ops C Q r.length (listed.setIfInBounds j true) a' w' := fun a' w' hm => anyD_of_mix hs r _ a' w' (hdn.add hr') (by rw [Array.size_setIfInBounds]; exact hsz) hB' hm
    unfold wpOp
    simp only [ho]
    simp only [wpList] at hw
    split
    · rename_i hwt
      rw [if_pos hwt] at hw
      rcases hw with hw | hw
      · left
        unfold Oper.wp at *
        generalize (execOp a.eval o).run P w = res at *
        cases res with
        | ok n w' =>
          cases n <;> simp only [Oper.upon] at hw ⊢
          case value u => exact hgo _ _ hw
          case skip => exact hgo _ _ hw
          case defer d => exact hgo _ _ hw
          case enter f args => exact Calls.mono hw (fun e w'' he => by
            cases e
            · exact hgo _ _ he
            · exact he
            · exact absurd he OnlyN.out)
          case row row args => exact Rows.mono hw (fun v w'' he => hgo _ _ he)
        | halt x w' => cases x <;> simp only [Oper.upon] at hw ⊢ <;> exact hw
      · exact absurd hw.2 OnlyN.out
    · rename_i hwt
      rw [if_neg hwt] at hw
      exact hgo _ _ hw
end
theorem wp_region_mixD {P : Program} (C : World → Prop) (perm : List (Nat × Bool)) {id : Nat} {Q : Exit → Act → World → Prop} {a : Act} {w : World} {l : List Oper} (hm : P.follows .mixedOrders = true)
    (hB : (Region.noSelect l.toArray && decide (perm.length = l.length) && permD .any l.toArray perm (Array.replicate l.length false)) = true)
    (h : mixD P l.toArray C Q (pickP l.toArray perm) a w.drew) : (Code.region id l.toArray true).wp P Q a w := by
  simp only [Bool.and_eq_true, decide_eq_true_eq] at hB
  obtain ⟨⟨hs, hl⟩, hp⟩ := hB
  refine Code.wp_mono OnlyN.imp (wp_region_any hm (wpAny_of_anyD (C := C) _ _ _ _ ?_))
  have := anyD_of_mix (C := C) (Q := Q) hs perm (Array.replicate l.length false) a w.drew (fun k ok _ hl => by
    rw [Array.getD_eq_getD_getElem?] at hl
    rcases Nat.lt_or_ge k l.length with hk | hk
    · simp [hk] at hl
    · rw [Array.getElem?_eq_none (by simpa using hk)] at hl
      cases hl) (by simp) hp h
  rw [hl] at this
  simpa using this
theorem mixD_nil {P : Program} {ops : Array Oper} {C : World → Prop} {Q : Exit → Act → World → Prop} {a : Act} {w : World} (h : Q .normal a w) : mixD P ops C Q [] a w := h
theorem mixD_first {P : Program} {ops : Array Oper} {C : World → Prop} {Q : Exit → Act → World → Prop} {o : Oper} {r : List (Oper × Bool)} {a : Act} {w : World}
    (h : ∃ A1, (∀ m : Held C, wpQuiet P ops (fun w' => ∃ _ : Unit, w' = HeldW m) (fun a' => a' = A1) [o] a) ∧ C w ∧ mixD P ops C Q r A1 w) : mixD P ops C Q ((o, true) :: r) a w := by
  obtain ⟨A1, h1, h2, h3⟩ := h
  exact ⟨A1, fun m => still_of_quiet (h1 m), h2, h3⟩
theorem mixD_forced {P : Program} {ops : Array Oper} {C : World → Prop} {Q : Exit → Act → World → Prop} {o : Oper} {r : List (Oper × Bool)} {a : Act} {w : World} (hC : C w)
    (h : wpList P ops (OnlyN fun _ a' w' => mixD P ops C Q r a' w') [o] a w) : mixD P ops C Q ((o, false) :: r) a w := ⟨hC, h⟩
end Sw
