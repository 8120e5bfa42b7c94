/- A device: its making, and what asks or turns one number. -/
import Derived.Test.YtlogdionhgabdaaDevAt
import Derived.Test.YtlogdionhgabdaaHeld
set_option linter.unusedVariables false
set_option linter.unusedSimpArgs false
namespace Go.Proofs.Ytlogdionhgabdaa
open Go Go.RowKit
open Sw
set_option maxRecDepth 100000 in
theorem devNew_any (w : World) (n : Int) :
    Calls Try.prog 7 #[.int .i64 n] w fun e w' => ∃ bd F, e = .returned (.pointer (some ⟨bd, 0, none⟩)) ∧ DevAt w' F bd (newD n) ∧ (∀ i, F i → w.heap.size ≤ i) ∧ Below w.heap.size w w' := by
  have hmm := @run_makeMap Try.prog
  go_enter Try.func7, Try.ntmps7
  go_wp2
  go_ret
  have hm : (max 0 (min n 8192)) = (((max 0 (min n 8192)).toNat : Nat) : Int) := by omega
  have m1 := MapI.made w Try.prog 3
  have m2 := MapI.made (w.alloc (.map #[] 0)) Try.prog 3
  rw [World.size_alloc] at m2
  refine ⟨w.heap.size + 1 + 1, fun i => w.heap.size ≤ i ∧ i < w.heap.size + 3, rfl, ⟨w.heap.size, w.heap.size + 1, fun _ => none, fun _ => none, ⟨?_, ((m1.alloc _).alloc _).mono (by omega), (m2.alloc _).mono (by omega), ?_, ?_, by omega, by omega, by omega, by omega, fun i v g hf => (by cases hf), fun i hi => (by have := hi.2; simp; omega)⟩⟩, fun i hi => hi.1, (((Below.refl _ w).alloc (Nat.le_refl _) _).alloc (by simp) _).alloc (by simp; omega) _⟩
  · have := blk_trd w (.map #[] 0) (.map #[] 0) #[.int .i64 (max 0 (min n 8192)), .map (some w.heap.size), .map (some (w.heap.size + 1)), .int .i64 (-1), .int .i64 (-1), .bool false, .int .i64 0] 53
    rw [hm] at this
    rw [hm]
    exact this
  · refine ⟨fun i hi => (by cases hi), fun i hi => ?_⟩
    have hi' : i < (max 0 (min n 8192)).toNat := hi
    show Value.string zS = Value.string ((List.replicate (max 0 (min n 8192)).toNat zS).getD i zS)
    rw [List.getD_eq_getElem?_getD, List.getElem?_replicate, if_pos hi']
    rfl
  · exact ⟨fun i _ => rfl, fun i hi => absurd rfl hi, fun i j v v' g hf => (by cases hf)⟩
section
variable {w : World} {F : Nat → Prop} {bd bs bw : Nat} {fS fW : Int → Option Value} {d : Dv}
theorem devSize_any (h : DevIn w F bd bs bw fS fW d) : Calls Try.prog 23 #[.pointer (some ⟨bd, 0, none⟩)] w fun e w' => e = .returned (.int .i64 d.size) ∧ w = w' := by
  have c := h.box.cell 0
  simp at c
  go_enter Try.func23, Try.ntmps23
  go_wp2
  go_ret
  exact ⟨rfl, rfl⟩
theorem devOff_any (h : DevIn w F bd bs bw fS fW d) : Calls Try.prog 13 #[.pointer (some ⟨bd, 0, none⟩)] w fun e w' => e = .returned (.bool d.off) ∧ w = w' := by
  have c := h.box.cell 5
  simp at c
  go_enter Try.func13, Try.ntmps13
  go_wp2
  go_ret
  exact ⟨rfl, rfl⟩
theorem devOps_any (h : DevIn w F bd bs bw fS fW d) : Calls Try.prog 15 #[.pointer (some ⟨bd, 0, none⟩)] w fun e w' => e = .returned (.int .i64 d.ops) ∧ w = w' := by
  have c := h.box.cell 6
  simp at c
  go_enter Try.func15, Try.ntmps15
  go_wp2
  go_ret
  exact ⟨rfl, rfl⟩
theorem devLimit_any (h : DevIn w F bd bs bw fS fW d) (n : Int) : Calls Try.prog 8 #[.pointer (some ⟨bd, 0, none⟩), .int .i64 n] w fun e w' => e = .returned (.tuple #[]) ∧ DevIn w' F bd bs bw fS fW { d with limit := max n (-1) } ∧ Turn F w w' := by
  have c := h.box.cell 3
  have f := h.box.frozen 3
  simp at c
  have H := Lib.hid h; clear h
  go_enter Try.func8, Try.ntmps8
  go_wp2
  go_end0
  exact ⟨rfl, H.out.cell 3 _ _ (by simp) rfl rfl rfl, (Turn.refl F w).put _ H.out.inD _⟩
theorem devFuse_any (h : DevIn w F bd bs bw fS fW d) (n : Int) : Calls Try.prog 9 #[.pointer (some ⟨bd, 0, none⟩), .int .i64 n] w fun e w' => e = .returned (.tuple #[]) ∧ DevIn w' F bd bs bw fS fW { d with fuse := max n (-1) } ∧ Turn F w w' := by
  have c := h.box.cell 4
  have f := h.box.frozen 4
  simp at c
  have H := Lib.hid h; clear h
  go_enter Try.func9, Try.ntmps9
  go_wp2
  go_end0
  exact ⟨rfl, H.out.cell 4 _ _ (by simp) rfl rfl rfl, (Turn.refl F w).put _ H.out.inD _⟩
/-- is there power for one more? -/
theorem devPower_no (h : DevIn w F bd bs bw fS fW d) (hf : d.fuse = 0) : Calls Try.prog 25 #[.pointer (some ⟨bd, 0, none⟩)] w fun e w' => e = .returned (.bool false) ∧ DevIn w' F bd bs bw fS fW d.gone ∧ Turn F w w' := by
  have c4 := h.box.cell 4
  have c5 := h.box.cell 5
  have f5 := h.box.frozen 5
  simp [hf] at c4 c5
  have H := Lib.hid h; clear h hf
  go_enter Try.func25, Try.ntmps25
  go_wp2
  go_ret
  exact ⟨rfl, H.out.cell 5 _ _ (by simp [Dv.gone]) rfl rfl rfl, (Turn.refl F w).put _ H.out.inD _⟩
theorem devPower_yes (h : DevIn w F bd bs bw fS fW d) (hf : d.fuse ≠ 0) (h0 : -1 ≤ d.fuse) (h1 : d.fuse ≤ 9223372036854775807) (h2 : 0 ≤ d.ops) (h3 : d.ops ≤ 1000000) : Calls Try.prog 25 #[.pointer (some ⟨bd, 0, none⟩)] w fun e w' => e = .returned (.bool true) ∧ DevIn w' F bd bs bw fS fW d.pow ∧ Turn F w w' := by
  have c4 := h.box.cell 4
  have f4 := h.box.frozen 4
  have c6 := h.box.cell 6
  have f6 := h.box.frozen 6
  simp at c4 c6
  have hb : (d.fuse == 0) = false := by simpa using hf
  have w1 : IntKind.i64.wrap (d.fuse - 1) = d.fuse - 1 := IntWalk.i64_in _ (by omega)
  have w2 : IntKind.i64.wrap (d.ops + 1) = d.ops + 1 := IntWalk.i64_in _ (by omega)
  have H := Lib.hid h; clear h hf
  go_enter Try.func25, Try.ntmps25
  go_wp2
  go_ret
  have h1 := H.out.cell 4 (.int .i64 (max (d.fuse - 1) (-1))) { d with fuse := max (d.fuse - 1) (-1) } (by simp) rfl rfl rfl
  exact ⟨rfl, h1.cell 6 _ _ (by simp [Dv.pow]) rfl rfl rfl, ((Turn.refl F w).put _ H.out.inD _).put _ H.out.inD _⟩
end
end Go.Proofs.Ytlogdionhgabdaa
