/- A device: how many writes are not sure. -/
import Derived.Test.YtlogdionhgabdaaDevOps
import Derived.Maps.RangeWalk
set_option linter.unusedVariables false
set_option linter.unusedSimpArgs false
namespace Sw
open Go Go.RowKit
theorem pend_step (left : Int → Bool) (x : Int) (hx : left x = true) : ∀ l : List (Int × ByteArray), (l.filter fun e => !(left e.1 && !(e.1 == x))).length = (l.filter fun e => !left e.1).length + (wetAt l x).length
  | [] => rfl
  | e :: l => by
    have ih := pend_step left x hx l
    unfold wetAt at ih ⊢
    rw [List.length_map] at ih ⊢
    simp only [List.filter_cons]
    by_cases h : e.1 = x
    · simp [h, hx]
      simp at ih
      omega
    · simp [h]
      cases hl : left e.1
      · simp at ih ⊢
        omega
      · simp at ih ⊢
        omega
theorem pend_none (l : List (Int × ByteArray)) (left : Int → Bool) (h : ∀ e ∈ l, left e.1 = true) : (l.filter fun e => !left e.1).length = 0 := by
  rw [List.length_eq_zero_iff, List.filter_eq_nil_iff]
  intro e he
  simp [h e he]
theorem pend_all (l : List (Int × ByteArray)) (left : Int → Bool) (h : ∀ e ∈ l, left e.1 = false) : (l.filter fun e => !left e.1).length = l.length := by
  rw [List.filter_eq_self.2]
  intro e he
  simp [h e he]
theorem wetAt_has {l : List (Int × ByteArray)} {e : Int × ByteArray} (he : e ∈ l) : wetAt l e.1 ≠ [] := by
  unfold wetAt
  intro h
  rw [List.map_eq_nil_iff, List.filter_eq_nil_iff] at h
  exact h e he (by simp)
end Sw
namespace Go.Proofs.Ytlogdionhgabdaa
open Go Go.RowKit
open Sw
section
variable {w w' : World} {F : Nat → Prop} {bd bs bw : Nat} {fS fW : Int → Option Value} {d : Dv}
theorem wet_slice (h : DevIn w F bd bs bw fS fW d) {i : Int} {v : Value} (hf : fW i = some v) : ∃ A c, v = .slice A (wetAt d.wet i).length c := by
  obtain ⟨A, c, hv, _⟩ := SlV_of_any (h.wetIs.mem hf).2
  exact ⟨A, c, hv⟩
theorem wet_i64 (hok : d.Ok) {e : Int × ByteArray} (he : e ∈ d.wet) : I64 e.1 := by
  have := hok.wet e he
  have := hok.size
  exact I64.mk (by omega) (by omega)
set_option maxRecDepth 100000 in
theorem devPending_any (h : DevIn w F bd bs bw fS fW d) (hok : d.Ok) (hwl : d.wet.length ≤ 1000000) :
    Calls Try.prog 21 #[.pointer (some ⟨bd, 0, none⟩)] w fun e w' => e = .returned (.int .i64 d.wet.length) ∧ Below w.heap.size w w' := by
  have b2 := h.box.cell 2
  simp at b2
  have hsl := fun i v (hf : fW i = some v) => wet_slice h hf
  have hst : ∀ e ∈ d.wet, (fW e.1).isSome = true := fun e he => by
    obtain ⟨v, hv, _⟩ := h.wetIs.got e.1 (wetAt_has he)
    rw [hv]; rfl
  have hie : ∀ e ∈ d.wet, I64 e.1 := fun e he => wet_i64 hok he
  have HH := Lib.hid (And.intro h (And.intro hsl (And.intro hst hie))); clear h hsl hst hie hok
  go_enter Try.func21, Try.ntmps21
  go_wp2_with (at_range; refine wpList_rangeI rfl _ 51 rfl 3 40 Try.underlying3 Try.underlying51 bw 8192 fW rfl HH.out.1.wet ?_; intro w0 cnt0 hrg0 hg0 hs0)
  go_frame
  have HR := Lib.hid (And.intro hrg0 (And.intro hg0 hs0)); clear hrg0 hg0 hs0
  go_loopw [2] (fun nv wr => ∃ left cnt, nv = .int .i64 ((d.wet.filter fun e => !left e.1).length : Nat) ∧ RunsI wr Try.prog 3 bw w.heap.size 8192 fW left cnt ∧ Below w.heap.size w wr) (fun _ wr => wr.rangeLeft bw w.heap.size)
  case atStart => exact ⟨_, _, by have := pend_none d.wet (fun i => (fW i).isSome) HH.out.2.2.1; rw [this]; rfl, HR.out.1, ⟨HR.out.2.1.os, HR.out.2.1.tape, HR.out.2.1.output, HR.out.2.1.size, fun k hk => HR.out.2.1.block k hk (by simp)⟩⟩
  case round =>
    obtain ⟨left, cnt, rfl, hrg, hb⟩ := hrel
    have HG := Lib.hid (And.intro hrg hb); clear hrg hb HR
    have hle := List.length_filter_le (fun e : Int × ByteArray => !left e.1) d.wet
    go_wp2_with (at_next; refine wpList_nextI rfl _ rfl 3 Try.underlying3 bw w.heap.size 8192 fW left cnt rfl HG.out.1 ?_ ?_)
    · intro hl
      have hall := pend_all d.wet left (fun e he => hl _ (HH.out.2.2.2 e he))
      rw [hall]
      go_wp2_with fail
      go_ret
      exact ⟨rfl, HG.out.2⟩
    · intro x v w1 cnt1 hx hlx hfx hrg1 hlt hg1 hs1 hen
      obtain ⟨A, c, rfl⟩ := HH.out.2.1 x v hfx
      have hstep := pend_step left x hlx d.wet
      have hle2 := List.length_filter_le (fun e : Int × ByteArray => !(left e.1 && !(e.1 == x))) d.wet
      rw [hstep] at hle2
      have hmeas : w1.rangeLeft bw w.heap.size < wr.rangeLeft bw w.heap.size := by rw [hrg1.left_eq, HG.out.1.left_eq]; exact hlt
      have H1 := Lib.hid (And.intro hstep (And.intro hrg1 (And.intro (HG.out.2.grown hg1 HG.out.2.size (fun k hk => by cases hk; exact Nat.le_refl _)) hmeas))); clear hstep hrg1 hg1 hlt hmeas hlx hfx
      have hw : IntKind.i64.wrap (((d.wet.filter fun e => !left e.1).length : Int) + ((wetAt d.wet x).length : Int)) = ((d.wet.filter fun e => !left e.1).length : Int) + ((wetAt d.wet x).length : Int) := IntWalk.i64_in _ (by omega)
      go_wp2_with fail
      go_roundw
      case rel => exact ⟨_, _, by rw [H1.out.1]; simp, H1.out.2.1, H1.out.2.2.1⟩
      case measure => exact H1.out.2.2.2
end
end Go.Proofs.Ytlogdionhgabdaa
