/- A device in memory: its blocks, and what leaves it as it was. -/
import Derived.Test.YtlogdionhgabdaaChecked
import Derived.Test.YtlogdionhgabdaaMapI
import Derived.Test.YtlogdionhgabdaaDevPlain
set_option linter.unusedVariables false
set_option linter.unusedSimpArgs false
namespace Sw
open Go Go.RowKit
/-- nothing that was there has turned but what F names -/
structure Turn (F : Nat → Prop) (w w' : World) : Prop where
  os : w'.os = w.os
  tape : w'.tape = w.tape
  output : w'.output = w.output
  size : w.heap.size ≤ w'.heap.size
  block : ∀ k, k < w.heap.size → ¬ F k → w'.heap[k]? = w.heap[k]?
section
variable {F G : Nat → Prop} {a w w' : World}
theorem Turn.refl (F : Nat → Prop) (w : World) : Turn F w w := ⟨rfl, rfl, rfl, Nat.le_refl _, fun _ _ _ => rfl⟩
theorem Turn.trans (h : Turn F a w) (k : Turn G w w') (hG : ∀ i, G i → F i ∨ a.heap.size ≤ i) : Turn F a w' :=
  ⟨k.os.trans h.os, k.tape.trans h.tape, k.output.trans h.output, Nat.le_trans h.size k.size, fun i hi hn => (k.block i (Nat.lt_of_lt_of_le hi h.size) (fun hg => by
    rcases hG i hg with h1 | h1
    · exact hn h1
    · omega)).trans (h.block i hi hn)⟩
theorem Turn.grown {row : Option Nat} (h : Turn F a w) (k : w.grownBy w' row) (hr : ∀ g, row = some g → F g ∨ a.heap.size ≤ g) : Turn F a w' :=
  ⟨k.os.trans h.os, k.tape.trans h.tape, k.output.trans h.output, Nat.le_trans h.size k.size, fun i hi hn => (k.block i (Nat.lt_of_lt_of_le hi h.size) (fun hg => by
    rcases hr i hg.symm with h1 | h1
    · exact hn h1
    · omega)).trans (h.block i hi hn)⟩
theorem Turn.below (h : Turn F a w) (k : Below w.heap.size w w') : Turn F a w' := h.grown (grown_below (row := none) k) (fun g hg => by cases hg)
theorem Turn.alloc (h : Turn F a w) (o : Obj) : Turn F a (w.alloc o) := h.grown (World.grownBy_alloc w o none) (fun g hg => by cases hg)
theorem Turn.drew (h : Turn F a w) : Turn F a w.drew := ⟨h.os, h.tape, h.output, h.size, h.block⟩
theorem Turn.put (h : Turn F a w) (p : Addr) (hp : F p.block) (u : Value) : Turn F a (w.setCell p u) :=
  h.trans (G := fun i => i = p.block) ⟨rfl, rfl, rfl, by simp [World.setCell], fun i hi hn => Below.heap_setCell w p u i hn⟩ (fun i hi => .inl (by rw [hi]; exact hp))
theorem Turn.to_below {B : Nat} (h : Turn F w w') (hF : ∀ i, F i → B ≤ i) (hB : B ≤ w.heap.size) : Below B w w' :=
  ⟨h.os, h.tape, h.output, h.size, fun k hk => h.block k (by omega) (fun hf => by have := hF k hf; omega)⟩
theorem Turn.mono (h : Turn F w w') (hF : ∀ i, F i → G i) : Turn G w w' := ⟨h.os, h.tape, h.output, h.size, fun k hk hn => h.block k hk (fun hf => hn (hF k hf))⟩
theorem own_same {w w' : World} {base : Nat} {e : TypeId} {size : Nat} {v : Value} {n : Nat} {xs : List Value} (h : w.ownsRow base e size v n xs) (hb : ∀ g, v.ownBlock = some g → w'.heap[g]? = w.heap[g]?) : w'.ownsRow base e size v n xs := by
  refine ⟨h.1, ?_⟩
  rcases h.2 with h0 | ⟨g, cap, cur, hv, hg, h1, h2⟩
  · exact .inl h0
  · exact .inr ⟨g, cap, cur, hv, hg, (hb g (by rw [hv]; rfl)).trans h1, h2⟩
end
/-- the map of what is sure -/
def SureIs (d : Dv) (f : Int → Option Value) : Prop :=
  (∀ i : Int, (f i).isSome = true → 0 ≤ i ∧ i < d.size) ∧ ∀ i : Nat, i < d.size → (f i).getD (.string zS) = .string (d.sure.getD i zS)
/-- the map of what was written -/
structure WetIs (w : World) (P : Program) (te : TypeId) (l : List (Int × ByteArray)) (f : Int → Option Value) : Prop where
  no : ∀ i, wetAt l i = [] → f i = none
  got : ∀ i, wetAt l i ≠ [] → ∃ v, f i = some v ∧ w.ownsRow 0 te 1 v (wetAt l i).length ((wetAt l i).map Value.string)
  apart : ∀ i j v v' g, f i = some v → f j = some v' → v.ownBlock = some g → v'.ownBlock = some g → i = j
theorem WetIs.same {w w' : World} {P : Program} {te : TypeId} {l : List (Int × ByteArray)} {f : Int → Option Value} (h : WetIs w P te l f) (hb : ∀ i v g, f i = some v → v.ownBlock = some g → w'.heap[g]? = w.heap[g]?) : WetIs w' P te l f :=
  ⟨h.no, fun i hi => by
    obtain ⟨v, hv, ho⟩ := h.got i hi
    exact ⟨v, hv, own_same ho (fun g hg => hb i v g hv hg)⟩, h.apart⟩
theorem WetIs.mem {w : World} {P : Program} {te : TypeId} {l : List (Int × ByteArray)} {f : Int → Option Value} (h : WetIs w P te l f) {i : Int} {v : Value} (hf : f i = some v) : wetAt l i ≠ [] ∧ w.ownsRow 0 te 1 v (wetAt l i).length ((wetAt l i).map Value.string) := by
  have hne : wetAt l i ≠ [] := fun h0 => by rw [h.no i h0] at hf; cases hf
  obtain ⟨v', hv', ho⟩ := h.got i hne
  rw [hf] at hv'
  cases hv'
  exact ⟨hne, ho⟩
theorem WetIs.lt {w : World} {P : Program} {te : TypeId} {l : List (Int × ByteArray)} {f : Int → Option Value} (h : WetIs w P te l f) {i : Int} {v : Value} {g : Nat} (hf : f i = some v) (hv : v.ownBlock = some g) : g < w.heap.size :=
  ((h.mem hf).2.lt g hv).2
end Sw
namespace Go.Proofs.Ytlogdionhgabdaa
open Go Go.RowKit
open Sw
/-- the parts of a device in memory: its struct, its two maps -/
structure DevIn (w : World) (F : Nat → Prop) (bd bs bw : Nat) (fS fW : Int → Option Value) (d : Dv) : Prop where
  box : Blk w bd 53 #[.int .i64 d.size, .map (some bs), .map (some bw), .int .i64 d.limit, .int .i64 d.fuse, .bool d.off, .int .i64 d.ops]
  sure : MapI w Try.prog 3 bs 8192 fS
  wet : MapI w Try.prog 3 bw 8192 fW
  sureIs : SureIs d fS
  wetIs : WetIs w Try.prog 9 d.wet fW
  ne : bs ≠ bw
  inD : F bd
  inS : F bs
  inW : F bw
  inR : ∀ i v g, fW i = some v → v.ownBlock = some g → F g
  lt : ∀ i, F i → i < w.heap.size
def DevAt (w : World) (F : Nat → Prop) (bd : Nat) (d : Dv) : Prop := ∃ bs bw fS fW, DevIn w F bd bs bw fS fW d
section
variable {w w' : World} {F G : Nat → Prop} {bd bs bw : Nat} {fS fW : Int → Option Value} {d : Dv}
theorem DevIn.neS (h : DevIn w F bd bs bw fS fW d) : bd ≠ bs := by
  rintro rfl
  obtain ⟨D, ⟨es, clock, h0, _⟩, _⟩ := h.sure
  have := h.box
  unfold Blk at this
  rw [this] at h0
  cases h0
theorem DevIn.neW (h : DevIn w F bd bs bw fS fW d) : bd ≠ bw := by
  rintro rfl
  obtain ⟨D, ⟨es, clock, h0, _⟩, _⟩ := h.wet
  have := h.box
  unfold Blk at this
  rw [this] at h0
  cases h0
theorem own_cells {base : Nat} {e : TypeId} {size : Nat} {v : Value} {n : Nat} {xs : List Value} (h : w.ownsRow base e size v n xs) {g : Nat} (hg : v.ownBlock = some g) : ∃ cur, Blk w g e cur := by
  rcases h.2 with ⟨rfl, _⟩ | ⟨g', cap, cur, rfl, _, h1, _⟩
  · cases hg
  · cases hg
    exact ⟨cur, h1⟩
theorem map_cells {P : Program} {k : TypeId} {b n : Nat} {f : Int → Option Value} (h : MapI w P k b n f) {e : TypeId} {cur : Array Value} : ¬ Blk w b e cur := by
  intro hb
  obtain ⟨D, ⟨es, clock, h0, _⟩, _⟩ := h
  unfold Blk at hb
  rw [hb] at h0
  cases h0
theorem DevIn.neR (h : DevIn w F bd bs bw fS fW d) {i : Int} {v : Value} {g : Nat} (hf : fW i = some v) (hv : v.ownBlock = some g) : g ≠ bd ∧ g ≠ bs ∧ g ≠ bw := by
  obtain ⟨cur, hc⟩ := own_cells (h.wetIs.mem hf).2 hv
  refine ⟨?_, ?_, ?_⟩
  · rintro rfl
    exact Blk.other hc h.box (by decide) rfl
  · rintro rfl
    exact map_cells h.sure hc
  · rintro rfl
    exact map_cells h.wet hc
theorem DevIn.same (h : DevIn w F bd bs bw fS fW d) (hb : ∀ i, F i → w'.heap[i]? = w.heap[i]?) (hs : w.heap.size ≤ w'.heap.size) : DevIn w' F bd bs bw fS fW d :=
  ⟨(hb _ h.inD).trans h.box, h.sure.same (hb _ h.inS), h.wet.same (hb _ h.inW), h.sureIs, h.wetIs.same (fun i v g hf hv => hb g (h.inR i v g hf hv)), h.ne, h.inD, h.inS, h.inW, h.inR, fun i hi => Nat.lt_of_lt_of_le (h.lt i hi) hs⟩
theorem DevIn.turn (h : DevIn w F bd bs bw fS fW d) (k : Turn G w w') (hd : ∀ i, F i → ¬ G i) : DevIn w' F bd bs bw fS fW d := h.same (fun i hi => k.block i (h.lt i hi) (hd i hi)) k.size
theorem DevIn.below (h : DevIn w F bd bs bw fS fW d) (k : Below w.heap.size w w') : DevIn w' F bd bs bw fS fW d := h.same (fun i hi => k.block i (h.lt i hi)) k.size
theorem DevIn.drew (h : DevIn w F bd bs bw fS fW d) : DevIn w.drew F bd bs bw fS fW d := h.same (fun _ _ => rfl) (Nat.le_refl _)
theorem DevAt.turn (h : DevAt w F bd d) (k : Turn G w w') (hd : ∀ i, F i → ¬ G i) : DevAt w' F bd d := by
  obtain ⟨bs, bw, fS, fW, h⟩ := h
  exact ⟨bs, bw, fS, fW, h.turn k hd⟩
theorem DevAt.below (h : DevAt w F bd d) (k : Below w.heap.size w w') : DevAt w' F bd d := by
  obtain ⟨bs, bw, fS, fW, h⟩ := h
  exact ⟨bs, bw, fS, fW, h.below k⟩
theorem DevAt.lt (h : DevAt w F bd d) : ∀ i, F i → i < w.heap.size := by obtain ⟨bs, bw, fS, fW, h⟩ := h; exact h.lt
/-- a number of the struct is turned -/
theorem DevIn.cell (h : DevIn w F bd bs bw fS fW d) (k : Nat) (u : Value) (d' : Dv) (hd : (#[.int .i64 d.size, .map (some bs), .map (some bw), .int .i64 d.limit, .int .i64 d.fuse, .bool d.off, .int .i64 d.ops] : Array Value).setIfInBounds k u = #[.int .i64 d'.size, .map (some bs), .map (some bw), .int .i64 d'.limit, .int .i64 d'.fuse, .bool d'.off, .int .i64 d'.ops])
    (h1 : d'.size = d.size) (h2 : d'.sure = d.sure) (h3 : d'.wet = d.wet) : DevIn (w.setCell ⟨bd, k, none⟩ u) F bd bs bw fS fW d' := by
  have hb : ∀ i, i ≠ bd → (w.setCell ⟨bd, k, none⟩ u).heap[i]? = w.heap[i]? := fun i hi => Below.heap_setCell w _ u i hi
  refine ⟨?_, h.sure.same (hb _ h.neS.symm), h.wet.same (hb _ h.neW.symm), ?_, ?_, h.ne, h.inD, h.inS, h.inW, h.inR, fun i hi => by simpa [World.setCell] using h.lt i hi⟩
  · rw [← hd]
    exact h.box.put k u
  · have := h.sureIs
    unfold SureIs at *
    rw [h1, h2]
    exact this
  · rw [h3]
    exact h.wetIs.same (fun i v g hf hv => hb g (h.neR hf hv).1)
end
end Go.Proofs.Ytlogdionhgabdaa
