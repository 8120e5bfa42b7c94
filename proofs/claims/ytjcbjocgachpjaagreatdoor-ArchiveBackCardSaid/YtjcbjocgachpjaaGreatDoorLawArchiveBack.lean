/-
  swinglelaw26.ArchiveBack: what two trees agree on may be a Base, and comes back from its text; of one and itself it is all; both ways round it is the same; with a line twice nothing is read.
  Whatever the input, the law's function returns true, and each argument reads behind the call as it read before. The row lists two tables of the library, which the walk does not read; the witness lays them.
-/
import Derived.Test.YtjcbjocgachpjaaGreatDoorJoin1
import Derived.Test.YtjcbjocgachpjaaGreatDoorJoin32
set_option linter.unusedVariables false
namespace Go.Proofs.YtjcbjocgachpjaaGreatDoor
open Go.ChangeShapes Go.WideShapes Go.ChangeAt Go.RowKit
theorem archiveBack_spec (H : Type) (ds : List (DataW H)) (h : ds.length = Tryz.f3.params.size) : Rows.archiveBackSpec.fn H ds = { results := [.lit (.bool true)], args := ds } := by
  have h' : ds.length = 2 := h
  match ds, h' with
  | [_, _], _ => rfl
set_option maxRecDepth 100000 in
theorem archiveBack_lifted (os : Os) (started : os.Started) (H : Type) (enc : TypeId × Value → H) :
    ReturnsInHanded {} Tryz.checked os 3 .any (fun w args => (Rows.archiveBackSpec.pre enc Tryz.prog Tryz.f3 Rows.archiveBackRow.domain false w args ∧ laidMetH Tryz.prog Rows.archiveBackRow.laid w) ∧ sizedMet enc Tryz.prog Tryz.f3 (OpenSpec.ofChange Rows.archiveBackSpec) false w args)
      (Rows.archiveBackSpec.post enc Tryz.prog Tryz.f3 false true false false) :=
  lifted_laid 3 Tryz.f3 Rows.archiveBackSpec rfl archiveBack_spec rfl (by kernel_rfl) Tryz.func3 (by kernel_rfl) archiveBack_walk os started H enc Rows.archiveBackRow.domain Rows.archiveBackRow.laid
    (ChangeSpec.witness_shaped (enc := enc) (C := Tryz.checked) (os := os) (X := fun w _ => laidMetH Tryz.prog Rows.archiveBackRow.laid w) false (World.laidAll Tryz.prog os Rows.archiveBackRow.laid) #[.slice none 0 0, .slice none 0 0] 8 (World.laidAll_os _ _ _)
      (World.shaped_of_ZipB (by kernel_rfl) (by kernel_rfl)) (by kernel_rfl) (by kernel_rfl) (by kernel_rfl)
      (by rw [MakeChecks.laidMetH_plain _ _ _ (by kernel_rfl)]; exact laidMet_laidAll _ (by kernel_rfl) (by kernel_rfl)))
theorem archiveBack_said : Rows.ArchiveBackSaid :=
  OpenClaim.holds_of_wide 3 Tryz.f3 rfl rfl rfl rfl rfl rfl rfl ⟨rfl, rfl, rfl, rfl, rfl⟩ rfl rfl rfl rfl rfl (by kernel_rfl) Tryz.func3 (by kernel_rfl)
    (of_decide_eq_true (by kernel_rfl)) (by unfold Func.isWrapper; rw [if_neg (of_decide_eq_false (by kernel_rfl))]; exact ⟨rfl, rfl⟩)
    (fun os started H enc _ => archiveBack_lifted os started H enc)
theorem archiveBack_plain (f : FuncId) (fn : Func) (hf : Tryz.pinned.checked.prog.funcNamed "swingle/swinglelaw26.ArchiveBack" = some f) (hfn : Tryz.pinned.checked.prog.funcs[f]? = some fn) :
    false = Tryz.pinned.checked.prog.looks [] ∧ ∀ (j : Nat) t, fn.params[j]? = some t → Tryz.pinned.checked.prog.wantsStandIn t = false := by
  obtain rfl : f = 3 := Option.some.inj ((show Tryz.prog.funcNamed "swingle/swinglelaw26.ArchiveBack" = some 3 by kernel_rfl).symm.trans hf) |>.symm
  obtain rfl : fn = Tryz.f3 := (Option.some.inj (Tryz.func3.symm.trans hfn)).symm
  refine ⟨by kernel_rfl, fun j t ht => ?_⟩
  have hall : (Tryz.f3.params.toList.all fun u => !Tryz.prog.wantsStandIn u) = true := by kernel_rfl
  exact (show Tryz.prog.wantsStandIn t = false by simpa using List.all_eq_true.1 hall t (by simpa using Array.mem_of_getElem? ht))
/-- ████ THE CARD ████ -/
theorem archiveBack_holds : Rows.ArchiveBackCardSaid :=
  Claim7.holds_tied_plain_at .later [] _ _ _ _ archiveBack_said (fun _ h => by cases h) (by kernel_rfl) (fun _ h => by cases h) archiveBack_row_tie rfl ⟨rfl, rfl⟩ (by kernel_rfl) rfl archiveBack_plain (by kernel_rfl)
#print axioms archiveBack_holds
end Go.Proofs.YtjcbjocgachpjaaGreatDoor
