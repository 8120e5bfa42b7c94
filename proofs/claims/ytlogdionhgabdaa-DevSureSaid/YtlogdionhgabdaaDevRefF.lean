/- The reference's device: its making. -/
import Derived.Test.YtlogdionhgabdaaDevRefE
set_option linter.unusedVariables false
set_option linter.unusedSimpArgs false
namespace Go.Proofs.Ytlogdionhgabdaa
open Go Go.RowKit
open Sw
structure NewI (w : World) (br i : Nat) (v : Value) (wr : World) : Prop where
  box : Blk wr br 43 #[v, .slice none 0 0, .int .i64 (-1), .int .i64 (-1), .bool false, .int .i64 0]
  row : wr.ownsRow w.heap.size 9 1 v i ((List.replicate i zS).map Value.string)
  old : Below w.heap.size w wr
  ge : w.heap.size ≤ br
theorem NewI.done {w : World} {br i : Nat} {v : Value} {wr : World} (h : NewI w br i v wr) (n : Int) (hi : (max 0 (min n 8192)).toNat = i) : RefIn wr (fun j => w.heap.size ≤ j ∧ j < wr.heap.size) br v (.slice none 0 0) (newD n) := by
  refine ⟨h.box, ?_, World.ownsRow_nil _ _ _ _, ⟨h.ge, h.box.lt⟩, fun g hg => h.row.lt g hg, fun g hg => (by cases hg), fun j hj => hj.2⟩
  show World.ownsRow _ 0 9 1 _ (max 0 (min n 8192)).toNat ((List.replicate (max 0 (min n 8192)).toNat zS).map Value.string)
  rw [hi]
  exact own_wide h.row (Nat.zero_le _)
set_option maxRecDepth 100000 in
set_option maxHeartbeats 2000000 in
theorem refNew_any (w : World) (n : Int) :
    Calls Try.prog 16 #[.int .i64 n] w fun e w' => ∃ br G, e = .returned (.pointer (some ⟨br, 0, none⟩)) ∧ RefAt w' G br (newD n) ∧ (∀ i, G i → w.heap.size ≤ i) ∧ Below w.heap.size w w' := by
  obtain ⟨M, hM⟩ : ∃ M, (max 0 (min n 8192)).toNat = M := ⟨_, rfl⟩
  have HM := Lib.hid hM; clear hM
  go_enter Try.func16, Try.ntmps16
  go_wp2_with fail
  refine (refZeros_any _).mono ?_
  rintro e _ ⟨rfl, rfl⟩
  obtain ⟨W1, hW1⟩ : ∃ W1, w.alloc (.cells #[.slice none 0 0, .slice none 0 0, .int .i64 (-1), .int .i64 (-1), .bool false, .int .i64 0] 43) = W1 := ⟨_, rfl⟩
  obtain ⟨br, hbr⟩ : ∃ br, w.heap.size = br := ⟨_, rfl⟩
  have H1 := Lib.hid (show NewI w br 0 (.slice none 0 0) W1 from ⟨by rw [← hW1, ← hbr]; exact Blk.new w _ _, World.ownsRow_nil _ _ _ _, by rw [← hW1]; exact (Below.refl _ w).alloc (Nat.le_refl _) _, Nat.le_of_eq hbr⟩)
  rw [hW1, hbr]
  clear hW1 hbr
  go_wp2_with fail
  go_loopw [5] (fun iv wr => ∃ (i : Nat) (v : Value), iv = .int .i64 i ∧ i ≤ M ∧ NewI w br i v wr) (fun iv _ => M - (intOf iv).toNat)
  case atStart => exact ⟨0, _, rfl, Nat.zero_le _, H1.out⟩
  case round =>
    obtain ⟨i, v, rfl, hi, hni⟩ := hrel
    have b0 := hni.box.cell 0
    simp at b0
    by_cases hlt : i < M
    · have h1 : (i : Int) < n := by have := HM.out; omega
      have h2 : (i : Int) < 8192 := by have := HM.out; omega
      obtain ⟨A, c, hv, _⟩ := SlV_of_any hni.row
      subst hv
      have HN := Lib.hid hni; clear hni H1
      have w1 : IntKind.i64.wrap ((i : Int) + 1) = i + 1 := IntWalk.i64_in _ (by omega)
      go_wp2_with (at_builtin; refine wpList_app rfl _ _ 40 rfl w.heap.size 9 (.string ⟨#[]⟩) 1 16 Try.underlying40 infoStr rfl (by decide) _ i ((List.replicate i zS).map Value.string) rfl (own_kept HN.out.row ((Below.refl _ _).alloc (Nat.le_refl _) _)) wr.heap.size 1 #[.string zS] 9 rfl (Blk.new wr _ _) rfl (by simp [Value.oneCell']) (by omega) (by decide) (by have := HN.out.old.size; simp; omega) _ rfl ?_; intro g cap w3 ho3 hg3 hat3 hlt3; have hbx3 := (HN.out.box.alloc (.cells #[.string zS] 9)).grown hg3 (fun e => by obtain ⟨cur, hc⟩ := own_cells HN.out.row e.symm; exact Blk.other hc HN.out.box (by decide) rfl); have HA := Lib.hid (And.intro ho3 (And.intro hbx3 (And.intro (own_below (own_kept HN.out.row ((Below.refl _ _).alloc (Nat.le_refl _) (.cells #[.string zS] 9))) (HN.out.old.alloc HN.out.old.size (.cells #[.string zS] 9)) hg3 (Nat.le_refl _) (by have := HN.out.old.size; simp; omega)) hlt3))); clear ho3 hg3 hat3 hlt3; have q0 := hbx3.cell 0; have p0 := hbx3.frozen 0; simp at q0; clear hbx3)
      have hgb : g ≠ br := by
        rintro rfl
        obtain ⟨cur, hc⟩ := own_cells HA.out.1 rfl
        exact Blk.other hc HA.out.2.1 (by decide) rfl
      have hfin : NewI w br (i + 1) (.slice (some ⟨g, 0, none⟩) (i + 1) cap) (w3.setCell ⟨br, 0, none⟩ (.slice (some ⟨g, 0, none⟩) (i + 1) cap)) := ⟨by simpa using HA.out.2.1.put 0 (.slice (some ⟨g, 0, none⟩) (i + 1) cap), by
          have e : (List.replicate (i + 1) zS).map Value.string = (List.replicate i zS).map Value.string ++ [.string zS] := by rw [List.replicate_succ', List.map_append]; rfl
          rw [e]
          exact own_same HA.out.1 (fun g' hg' => by cases hg'; exact Below.heap_setCell _ _ _ _ hgb), HA.out.2.2.1.grown (grown_put (grown_refl w3 (some br)) 0 _) HA.out.2.2.1.size (fun k hk => by cases hk; exact HN.out.ge), HN.out.ge⟩
      have HF := Lib.hid hfin; clear hfin q0 p0
      go_roundw
      case rel => exact ⟨i + 1, _, by go_num, by omega, HF.out⟩
      case measure => simp [intOf]; omega
    · have hie : (max 0 (min n 8192)).toNat = i := by have := HM.out; omega
      have HF := Lib.hid (hni.done n hie)
      have HO := Lib.hid hni.old
      clear hni H1 hie
      have hor : ¬ (i : Int) < n ∨ ¬ (i : Int) < 8192 := by have := HM.out; omega
      by_cases hn : (i : Int) < n
      · have h2 : ¬ (i : Int) < 8192 := hor.resolve_left (fun h => h hn)
        clear hlt hi hor
        go_wp2_with fail
        go_ret
        exact ⟨br, rfl, _, ⟨_, _, HF.out⟩, fun j hj => hj.1, HO.out⟩
      · clear hlt hi hor
        go_wp2_with fail
        go_ret
        exact ⟨br, rfl, _, ⟨_, _, HF.out⟩, fun j hj => hj.1, HO.out⟩
end Go.Proofs.Ytlogdionhgabdaa
