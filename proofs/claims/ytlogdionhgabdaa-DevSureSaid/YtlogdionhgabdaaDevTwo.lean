/- A device and the reference's, side by side. -/
import Derived.Test.YtlogdionhgabdaaDevRefF
import Derived.Test.YtlogdionhgabdaaDevLives
import Derived.Test.YtlogdionhgabdaaStep17
import Derived.Test.YtlogdionhgabdaaDevFusePlain
set_option linter.unusedVariables false
set_option linter.unusedSimpArgs false
namespace Sw
/-- what holds of the state behind i steps -/
structure G17 (i : Nat) (d : Dv) : Prop where
  ok : d.Ok
  wl : d.wet.length ≤ i
  op : d.ops ≤ i
  sz : d.size ≤ 12
theorem Dv.write_size (d : Dv) (i : Int) (s : ByteArray) : (d.write i s).2.size = d.size := by
  unfold Dv.write
  repeat' split
  all_goals rfl
theorem Dv.flush_size (d : Dv) : (d.flush).2.size = d.size := by
  unfold Dv.flush
  repeat' split
  all_goals rfl
theorem G17.write {i : Nat} {d : Dv} (h : G17 i d) (p : Int) (s : ByteArray) : G17 (i + 1) (d.write p s).2 := by
  refine ⟨h.ok.write p s, ?_, ?_, ?_⟩
  · have := d.write_len p s; have := h.wl; omega
  · have := d.write_ops p s; have := h.op; omega
  · rw [Dv.write_size]; exact h.sz
theorem G17.flush {i : Nat} {d : Dv} (h : G17 i d) : G17 (i + 1) d.flush.2 := by
  refine ⟨h.ok.flush, ?_, ?_, ?_⟩
  · have := d.flush_len; have := h.wl; omega
  · have := d.flush_ops; have := h.op; omega
  · rw [Dv.flush_size]; exact h.sz
theorem G17.restart {i : Nat} {d : Dv} (h : G17 i d) (keep : List Int) : G17 (i + 1) (d.restart keep) := ⟨h.ok.restart keep, Nat.zero_le _, by show d.ops ≤ ((i + 1 : Nat) : Int); have := h.op; omega, h.sz⟩
theorem G17.limit {i : Nat} {d : Dv} (h : G17 i d) (p : Int) (hp : p ≤ 9223372036854775807) : G17 (i + 1) { d with limit := max p (-1) } :=
  ⟨⟨h.ok.len, h.ok.size, h.ok.wet, h.ok.f0, h.ok.f1, by show -1 ≤ max p (-1); omega, by show max p (-1) ≤ 9223372036854775807; omega, h.ok.o0⟩, by show d.wet.length ≤ i + 1; have := h.wl; omega, by show d.ops ≤ ((i + 1 : Nat) : Int); have := h.op; omega, h.sz⟩
theorem G17.fuse {i : Nat} {d : Dv} (h : G17 i d) (p : Int) (hp : p ≤ 9223372036854775807) : G17 (i + 1) { d with fuse := max p (-1) } :=
  ⟨⟨h.ok.len, h.ok.size, h.ok.wet, by show -1 ≤ max p (-1); omega, by show max p (-1) ≤ 9223372036854775807; omega, h.ok.l0, h.ok.l1, h.ok.o0⟩, by show d.wet.length ≤ i + 1; have := h.wl; omega, by show d.ops ≤ ((i + 1 : Nat) : Int); have := h.op; omega, h.sz⟩
end Sw
namespace Go.Proofs.Ytlogdionhgabdaa
open Go Go.RowKit
open Sw
/-- both devices, and a struct beside them -/
structure Tw (w : World) (bd br N : Nat) (cs : Array Value) (F G : Nat → Prop) (d e : Dv) (W : World) : Prop where
  dev : DevAt W F bd d
  ref : RefAt W G br e
  dis : ∀ i, F i → ¬ G i
  lowF : ∀ i, F i → w.heap.size ≤ i
  lowG : ∀ i, G i → w.heap.size ≤ i
  old : Below w.heap.size w W
  nF : ¬ F N
  nG : ¬ G N
  blk : Blk W N 30 cs
theorem Tw.below {w W W' : World} {bd br N : Nat} {cs : Array Value} {F G : Nat → Prop} {d e : Dv} (h : Tw w bd br N cs F G d e W) (hb : Below W.heap.size W W') : Tw w bd br N cs F G d e W' :=
  ⟨h.dev.below hb, h.ref.below hb, h.dis, h.lowF, h.lowG, h.old.trans (hb.mono h.old.size), h.nF, h.nG, h.blk.below hb h.blk.lt⟩
theorem Tw.drew {w W : World} {bd br N : Nat} {cs : Array Value} {F G : Nat → Prop} {d e : Dv} (h : Tw w bd br N cs F G d e W) : Tw w bd br N cs F G d e W.drew := h.below ((Below.refl _ W).drew)
theorem Tw.devStep {w W W' : World} {bd br N : Nat} {cs : Array Value} {F G F' : Nat → Prop} {d e d' : Dv} (h : Tw w bd br N cs F G d e W) (hd : DevAt W' F' bd d') (hF : ∀ j, F' j → F j ∨ W.heap.size ≤ j) (ht : Turn F W W') : Tw w bd br N cs F' G d' e W' :=
  ⟨hd, h.ref.turn ht (fun i hi hf => h.dis i hf hi), fun i hi hg => (hF i hi).elim (fun hf => h.dis i hf hg) (fun hs => by have := h.ref.lt i hg; omega), fun i hi => (hF i hi).elim (fun hf => h.lowF i hf) (fun hs => Nat.le_trans h.old.size hs), h.lowG, h.old.trans (ht.to_below h.lowF h.old.size),
    fun hn => (hF N hn).elim h.nF (fun hs => by have := h.blk.lt; omega), h.nG, (ht.block N h.blk.lt h.nF).trans h.blk⟩
theorem Tw.refStep {w W W' : World} {bd br N : Nat} {cs : Array Value} {F G G' : Nat → Prop} {d e e' : Dv} (h : Tw w bd br N cs F G d e W) (hd : RefAt W' G' br e') (hG : ∀ j, G' j → G j ∨ W.heap.size ≤ j) (ht : Turn G W W') : Tw w bd br N cs F G' d e' W' :=
  ⟨h.dev.turn ht (fun i hi hf => h.dis i hi hf), hd, fun i hi hg => (hG i hg).elim (fun hf => h.dis i hi hf) (fun hs => by have := h.dev.lt i hi; omega), h.lowF, fun i hi => (hG i hi).elim (fun hf => h.lowG i hf) (fun hs => Nat.le_trans h.old.size hs), h.old.trans (ht.to_below h.lowG h.old.size),
    h.nF, fun hn => (hG N hn).elim h.nG (fun hs => by have := h.blk.lt; omega), (ht.block N h.blk.lt h.nG).trans h.blk⟩
def Two17 (w : World) (bd br : Nat) (d : Dv) (W : World) : Prop := ∃ F G, DevAt W F bd d ∧ RefAt W G br d ∧ (∀ i, F i → ¬ G i) ∧ (∀ i, F i → w.heap.size ≤ i) ∧ (∀ i, G i → w.heap.size ≤ i) ∧ Below w.heap.size w W
theorem Tw.two {w W : World} {bd br N : Nat} {cs : Array Value} {F G : Nat → Prop} {d : Dv} (h : Tw w bd br N cs F G d d W) : Two17 w bd br d W := ⟨F, G, h.dev, h.ref, h.dis, h.lowF, h.lowG, h.old⟩
/-- a slice that was there at the call is read as ever -/
theorem slv_past {w W W' : World} {F : Nat → Prop} {size : Nat} {α : Type} {E : α → List Value} {v : Value} {l : List α} (h : SlV w size E v l) (hb : Below w.heap.size w W) (hF : ∀ i, F i → w.heap.size ≤ i) (k : Turn F W W') : SlV W' size E v l :=
  h.below (hb.trans (k.to_below hF hb.size)) (Nat.le_refl _)
end Go.Proofs.Ytlogdionhgabdaa
