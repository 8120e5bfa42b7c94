/-
  swinglelaw30.ReconAll: what is decided of all paths of any two trees, and how often each; who stops is told no more.
  Whatever the input, the law's function returns true, and each argument reads behind the call as it read before. The row lists two tables of the library, which the walk does not read; the witness lays them.
-/
import Derived.Test.YteofiffbobbdmaaGreatDoorJoin1
import Derived.Test.YteofiffbobbdmaaGreatDoorJoin39
set_option linter.unusedVariables false
namespace Go.Proofs.YteofiffbobbdmaaGreatDoor
open Go.ChangeShapes Go.WideShapes Go.ChangeAt Go.RowKit
theorem reconAll_spec (H : Type) (ds : List (DataW H)) (h : ds.length = Tryz.f5.params.size) : Rows.reconAllSpec.fn H ds = { results := [.lit (.bool true)], args := ds } := by
  have h' : ds.length = 3 := h
  match ds, h' with
  | [_, _, _], _ => rfl
set_option maxRecDepth 100000 in
theorem reconAll_lifted (os : Os) (started : os.Started) (H : Type) (enc : TypeId × Value → H) :
    ReturnsInHanded {} Tryz.checked os 5 .any (fun w args => (Rows.reconAllSpec.pre enc Tryz.prog Tryz.f5 Rows.reconAllRow.domain false w args ∧ laidMetH Tryz.prog Rows.reconAllRow.laid w) ∧ sizedMet enc Tryz.prog Tryz.f5 (OpenSpec.ofChange Rows.reconAllSpec) false w args)
      (Rows.reconAllSpec.post enc Tryz.prog Tryz.f5 false true false false) :=
  lifted_laid 5 Tryz.f5 Rows.reconAllSpec rfl reconAll_spec rfl (by kernel_rfl) Tryz.func5 (by kernel_rfl) reconAll_walk os started H enc Rows.reconAllRow.domain Rows.reconAllRow.laid
    (ChangeSpec.witness_shaped (enc := enc) (C := Tryz.checked) (os := os) (X := fun w _ => laidMetH Tryz.prog Rows.reconAllRow.laid w) false (World.laidAll Tryz.prog os Rows.reconAllRow.laid) #[.agg #[.slice none 0 0, .slice none 0 0], .agg #[.slice none 0 0, .slice none 0 0], .int .u64 0] 8 (World.laidAll_os _ _ _)
      (World.shaped_of_ZipB (by kernel_rfl) (by kernel_rfl)) (by kernel_rfl) (by kernel_rfl) (by kernel_rfl)
      (by rw [MakeChecks.laidMetH_plain _ _ _ (by kernel_rfl)]; exact laidMet_laidAll _ (by kernel_rfl) (by kernel_rfl)))
theorem reconAll_said : Rows.ReconAllSaid :=
  OpenClaim.holds_of_wide 5 Tryz.f5 rfl rfl rfl rfl rfl rfl rfl ⟨rfl, rfl, rfl, rfl, rfl⟩ rfl rfl rfl rfl rfl (by kernel_rfl) Tryz.func5 (by kernel_rfl)
    (of_decide_eq_true (by kernel_rfl)) (by unfold Func.isWrapper; rw [if_neg (of_decide_eq_false (by kernel_rfl))]; exact ⟨rfl, rfl⟩)
    (fun os started H enc _ => reconAll_lifted os started H enc)
theorem reconAll_plain (f : FuncId) (fn : Func) (hf : Tryz.pinned.checked.prog.funcNamed "swingle/swinglelaw30.ReconAll" = some f) (hfn : Tryz.pinned.checked.prog.funcs[f]? = some fn) :
    false = Tryz.pinned.checked.prog.looks [] ∧ ∀ (j : Nat) t, fn.params[j]? = some t → Tryz.pinned.checked.prog.wantsStandIn t = false := by
  obtain rfl : f = 5 := Option.some.inj ((show Tryz.prog.funcNamed "swingle/swinglelaw30.ReconAll" = some 5 by kernel_rfl).symm.trans hf) |>.symm
  obtain rfl : fn = Tryz.f5 := (Option.some.inj (Tryz.func5.symm.trans hfn)).symm
  refine ⟨by kernel_rfl, fun j t ht => ?_⟩
  have hall : (Tryz.f5.params.toList.all fun u => !Tryz.prog.wantsStandIn u) = true := by kernel_rfl
  exact (show Tryz.prog.wantsStandIn t = false by simpa using List.all_eq_true.1 hall t (by simpa using Array.mem_of_getElem? ht))
/-- ████ THE CARD ████ -/
theorem reconAll_holds : Rows.ReconAllCardSaid :=
  Claim7.holds_tied_plain_at .later [] _ _ _ _ reconAll_said (fun _ h => by cases h) (by kernel_rfl) (fun _ h => by cases h) reconAll_row_tie rfl ⟨rfl, rfl⟩ (by kernel_rfl) rfl reconAll_plain (by kernel_rfl)
#print axioms reconAll_holds
end Go.Proofs.YteofiffbobbdmaaGreatDoor
