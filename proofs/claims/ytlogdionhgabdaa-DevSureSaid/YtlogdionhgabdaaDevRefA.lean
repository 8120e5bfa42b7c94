/- The reference's device: in memory; its making, its power, a sector written. -/
import Derived.Test.YtlogdionhgabdaaDevWrite
import Derived.Test.YtlogdionhgabdaaDevSector
import Derived.Test.YtlogdionhgabdaaAppSlv
set_option linter.unusedVariables false
set_option linter.unusedSimpArgs false
namespace Sw
open Go Go.RowKit
def wE (e : Int × ByteArray) : List Value := [.int .i64 e.1, .string e.2]
def repZ (i : Nat) : ByteArray := ⟨(List.replicate i 0).toArray⟩
theorem repZ_succ (i : Nat) : repZ i ++ ⟨#[0]⟩ = repZ (i + 1) := by
  unfold repZ
  apply ByteArray.ext
  rw [ByteArray.data_append]
  apply Array.ext'
  rw [Array.toList_append, List.replicate_succ']
theorem repZ_end : repZ 512 = zS := rfl
theorem repZ_size (i : Nat) : (repZ i).size = i := by
  show (List.replicate i 0).toArray.size = i
  rw [List.size_toArray, List.length_replicate]
end Sw
namespace Go.Proofs.Ytlogdionhgabdaa
open Go Go.RowKit
open Sw
/-- the reference's device in memory -/
structure RefIn (w : World) (G : Nat → Prop) (br : Nat) (vS vW : Value) (d : Dv) : Prop where
  box : Blk w br 43 #[vS, vW, .int .i64 d.limit, .int .i64 d.fuse, .bool d.off, .int .i64 d.ops]
  sure : w.ownsRow 0 9 1 vS d.size (d.sure.map Value.string)
  wet : w.ownsRow 0 59 2 vW d.wet.length (d.wet.flatMap wE)
  inD : G br
  inS : ∀ g, vS.ownBlock = some g → G g
  inW : ∀ g, vW.ownBlock = some g → G g
  lt : ∀ i, G i → i < w.heap.size
def RefAt (w : World) (G : Nat → Prop) (br : Nat) (d : Dv) : Prop := ∃ vS vW, RefIn w G br vS vW d
section
variable {w w' : World} {F G : Nat → Prop} {br : Nat} {vS vW : Value} {d : Dv}
theorem RefIn.neS (h : RefIn w G br vS vW d) {g : Nat} (hg : vS.ownBlock = some g) : g ≠ br := by
  obtain ⟨cur, hc⟩ := own_cells h.sure hg
  rintro rfl
  exact Blk.other hc h.box (by decide) rfl
theorem RefIn.neW (h : RefIn w G br vS vW d) {g : Nat} (hg : vW.ownBlock = some g) : g ≠ br := by
  obtain ⟨cur, hc⟩ := own_cells h.wet hg
  rintro rfl
  exact Blk.other hc h.box (by decide) rfl
theorem RefIn.neSW (h : RefIn w G br vS vW d) {g : Nat} (hg : vS.ownBlock = some g) : vW.ownBlock ≠ some g := by
  intro hg'
  obtain ⟨cur, hc⟩ := own_cells h.sure hg
  obtain ⟨cur', hc'⟩ := own_cells h.wet hg'
  exact Blk.other hc hc' (by decide) rfl
theorem RefIn.same (h : RefIn w G br vS vW d) (hb : ∀ i, G i → w'.heap[i]? = w.heap[i]?) (hs : w.heap.size ≤ w'.heap.size) : RefIn w' G br vS vW d :=
  ⟨(hb _ h.inD).trans h.box, own_same h.sure (fun g hg => hb g (h.inS g hg)), own_same h.wet (fun g hg => hb g (h.inW g hg)), h.inD, h.inS, h.inW, fun i hi => Nat.lt_of_lt_of_le (h.lt i hi) hs⟩
theorem RefIn.turn (h : RefIn w G br vS vW d) (k : Turn F w w') (hd : ∀ i, G i → ¬ F i) : RefIn w' G br vS vW d := h.same (fun i hi => k.block i (h.lt i hi) (hd i hi)) k.size
theorem RefIn.below (h : RefIn w G br vS vW d) (k : Below w.heap.size w w') : RefIn w' G br vS vW d := h.same (fun i hi => k.block i (h.lt i hi)) k.size
theorem RefIn.drew (h : RefIn w G br vS vW d) : RefIn w.drew G br vS vW d := h.same (fun _ _ => rfl) (Nat.le_refl _)
theorem RefAt.turn (h : RefAt w G br d) (k : Turn F w w') (hd : ∀ i, G i → ¬ F i) : RefAt w' G br d := by
  obtain ⟨vS, vW, h⟩ := h
  exact ⟨vS, vW, h.turn k hd⟩
theorem RefAt.below (h : RefAt w G br d) (k : Below w.heap.size w w') : RefAt w' G br d := by
  obtain ⟨vS, vW, h⟩ := h
  exact ⟨vS, vW, h.below k⟩
theorem RefAt.lt (h : RefAt w G br d) : ∀ i, G i → i < w.heap.size := by obtain ⟨vS, vW, h⟩ := h; exact h.lt
/-- a number of the struct is turned -/
theorem RefIn.cell (h : RefIn w G br vS vW d) (k : Nat) (u : Value) (d' : Dv) (hd : (#[vS, vW, .int .i64 d.limit, .int .i64 d.fuse, .bool d.off, .int .i64 d.ops] : Array Value).setIfInBounds k u = #[vS, vW, .int .i64 d'.limit, .int .i64 d'.fuse, .bool d'.off, .int .i64 d'.ops])
    (h1 : d'.size = d.size) (h2 : d'.sure = d.sure) (h3 : d'.wet = d.wet) : RefIn (w.setCell ⟨br, k, none⟩ u) G br vS vW d' := by
  have hb : ∀ i, i ≠ br → (w.setCell ⟨br, k, none⟩ u).heap[i]? = w.heap[i]? := fun i hi => Below.heap_setCell w _ u i hi
  refine ⟨?_, ?_, ?_, h.inD, h.inS, h.inW, fun i hi => by simpa [World.setCell] using h.lt i hi⟩
  · rw [← hd]
    exact h.box.put k u
  · rw [h1, h2]
    exact own_same h.sure (fun g hg => hb g (h.neS hg))
  · rw [h3]
    exact own_same h.wet (fun g hg => hb g (h.neW hg))
theorem refPower_no (h : RefIn w G br vS vW d) (hf : d.fuse = 0) : Calls Try.prog 28 #[.pointer (some ⟨br, 0, none⟩)] w fun e w' => e = .returned (.bool false) ∧ RefIn w' G br vS vW d.gone ∧ Turn G w w' := by
  have c4 := h.box.cell 3
  have c5 := h.box.cell 4
  have f5 := h.box.frozen 4
  simp [hf] at c4 c5
  have H := Lib.hid h; clear h hf
  go_enter Try.func28, Try.ntmps28
  go_wp2
  go_ret
  exact ⟨rfl, H.out.cell 4 _ _ (by simp [Dv.gone]) rfl rfl rfl, (Turn.refl G w).put _ H.out.inD _⟩
theorem refPower_yes (h : RefIn w G br vS vW d) (hf : d.fuse ≠ 0) (h0 : -1 ≤ d.fuse) (h1 : d.fuse ≤ 9223372036854775807) (h2 : 0 ≤ d.ops) (h3 : d.ops ≤ 1000000) : Calls Try.prog 28 #[.pointer (some ⟨br, 0, none⟩)] w fun e w' => e = .returned (.bool true) ∧ RefIn w' G br vS vW d.pow ∧ Turn G w w' := by
  have c4 := h.box.cell 3
  have f4 := h.box.frozen 3
  have c6 := h.box.cell 5
  have f6 := h.box.frozen 5
  simp at c4 c6
  have hb : (d.fuse == 0) = false := by simpa using hf
  have w1 : IntKind.i64.wrap (d.fuse - 1) = d.fuse - 1 := IntWalk.i64_in _ (by omega)
  have w2 : IntKind.i64.wrap (d.ops + 1) = d.ops + 1 := IntWalk.i64_in _ (by omega)
  have H := Lib.hid h; clear h
  by_cases hp : 0 < d.fuse
  · have hm : max (d.fuse - 1) (-1) = d.fuse - 1 := by omega
    have HM := Lib.hid hm; clear hm hf
    go_enter Try.func28, Try.ntmps28
    go_wp2
    go_ret
    have h1 := H.out.cell 3 (.int .i64 (d.fuse - 1)) { d with fuse := max (d.fuse - 1) (-1) } (by simp [HM.out]) rfl rfl rfl
    exact ⟨rfl, h1.cell 5 _ _ (by simp [Dv.pow]) rfl rfl rfl, ((Turn.refl G w).put _ H.out.inD _).put _ H.out.inD _⟩
  · have hm : d.pow = { d with ops := d.ops + 1 } := by
      unfold Dv.pow
      have : max (d.fuse - 1) (-1) = d.fuse := by omega
      rw [this]
    rw [hm]
    clear hm hf
    go_enter Try.func28, Try.ntmps28
    go_wp2
    go_ret
    exact ⟨rfl, H.out.cell 5 _ _ (by simp) rfl rfl rfl, (Turn.refl G w).put _ H.out.inD _⟩
end
set_option maxRecDepth 100000 in
theorem refZeros_any (w : World) : Calls Try.prog 27 #[] w fun e w' => e = .returned (.string zS) ∧ w = w' := by
  go_enter Try.func27, Try.ntmps27
  go_wp2_with fail
  go_loopw [1, 2] (fun s t wr => ∃ i : Nat, i ≤ 512 ∧ t = .int .i64 i ∧ s = .string (repZ i) ∧ wr = w) (fun _ t _ => 512 - (intOf t).toNat)
  case atStart => exact ⟨0, Nat.zero_le _, rfl, rfl, rfl⟩
  case round =>
    obtain ⟨i, hi, rfl, rfl, rfl⟩ := hrel
    by_cases hlt : i < 512
    · have hi1 : (i : Int) < 512 := by omega
      have hz := repZ_succ i
      have hs1 := repZ_size i
      have hs2 := repZ_size (i + 1)
      go_wp2_with fail

      go_roundw
      case rel => exact ⟨i + 1, by omega, by go_num, rfl, trivial⟩
      case measure => simp [intOf]; omega
    · obtain rfl : i = 512 := by omega
      have hz := repZ_end
      go_wp2_with fail
      go_ret
      exact ⟨rfl, rfl⟩
end Go.Proofs.Ytlogdionhgabdaa
