/-
  swinglelaw30.ReconTurns: both sides the other way round: the one goes where the other one went, and all else is the same; of a side and itself all is kept.
  Whatever the input, the law's function returns true, and each argument reads behind the call as it read before. The row lists two tables of the library, which the walk does not read; the witness lays them.
-/
import Derived.Test.YteofiffbobbdmaaGreatDoorJoin1
import Derived.Test.YteofiffbobbdmaaGreatDoorJoin35
set_option linter.unusedVariables false
namespace Go.Proofs.YteofiffbobbdmaaGreatDoor
open Go.ChangeShapes Go.WideShapes Go.ChangeAt Go.RowKit
theorem reconTurns_spec (H : Type) (ds : List (DataW H)) (h : ds.length = Tryz.f6.params.size) : Rows.reconTurnsSpec.fn H ds = { results := [.lit (.bool true)], args := ds } := by
  have h' : ds.length = 2 := h
  match ds, h' with
  | [_, _], _ => rfl
set_option maxRecDepth 100000 in
theorem reconTurns_lifted (os : Os) (started : os.Started) (H : Type) (enc : TypeId × Value → H) :
    ReturnsInHanded {} Tryz.checked os 6 .any (fun w args => (Rows.reconTurnsSpec.pre enc Tryz.prog Tryz.f6 Rows.reconTurnsRow.domain false w args ∧ laidMetH Tryz.prog Rows.reconTurnsRow.laid w) ∧ sizedMet enc Tryz.prog Tryz.f6 (OpenSpec.ofChange Rows.reconTurnsSpec) false w args)
      (Rows.reconTurnsSpec.post enc Tryz.prog Tryz.f6 false true false false) :=
  lifted_laid 6 Tryz.f6 Rows.reconTurnsSpec rfl reconTurns_spec rfl (by kernel_rfl) Tryz.func6 (by kernel_rfl) reconTurns_walk os started H enc Rows.reconTurnsRow.domain Rows.reconTurnsRow.laid
    (ChangeSpec.witness_shaped (enc := enc) (C := Tryz.checked) (os := os) (X := fun w _ => laidMetH Tryz.prog Rows.reconTurnsRow.laid w) false (World.laidAll Tryz.prog os Rows.reconTurnsRow.laid) #[.agg #[.slice none 0 0, .slice none 0 0], .agg #[.slice none 0 0, .slice none 0 0]] 8 (World.laidAll_os _ _ _)
      (World.shaped_of_ZipB (by kernel_rfl) (by kernel_rfl)) (by kernel_rfl) (by kernel_rfl) (by kernel_rfl)
      (by rw [MakeChecks.laidMetH_plain _ _ _ (by kernel_rfl)]; exact laidMet_laidAll _ (by kernel_rfl) (by kernel_rfl)))
theorem reconTurns_said : Rows.ReconTurnsSaid :=
  OpenClaim.holds_of_wide 6 Tryz.f6 rfl rfl rfl rfl rfl rfl rfl ⟨rfl, rfl, rfl, rfl, rfl⟩ rfl rfl rfl rfl rfl (by kernel_rfl) Tryz.func6 (by kernel_rfl)
    (of_decide_eq_true (by kernel_rfl)) (by unfold Func.isWrapper; rw [if_neg (of_decide_eq_false (by kernel_rfl))]; exact ⟨rfl, rfl⟩)
    (fun os started H enc _ => reconTurns_lifted os started H enc)
theorem reconTurns_plain (f : FuncId) (fn : Func) (hf : Tryz.pinned.checked.prog.funcNamed "swingle/swinglelaw30.ReconTurns" = some f) (hfn : Tryz.pinned.checked.prog.funcs[f]? = some fn) :
    false = Tryz.pinned.checked.prog.looks [] ∧ ∀ (j : Nat) t, fn.params[j]? = some t → Tryz.pinned.checked.prog.wantsStandIn t = false := by
  obtain rfl : f = 6 := Option.some.inj ((show Tryz.prog.funcNamed "swingle/swinglelaw30.ReconTurns" = some 6 by kernel_rfl).symm.trans hf) |>.symm
  obtain rfl : fn = Tryz.f6 := (Option.some.inj (Tryz.func6.symm.trans hfn)).symm
  refine ⟨by kernel_rfl, fun j t ht => ?_⟩
  have hall : (Tryz.f6.params.toList.all fun u => !Tryz.prog.wantsStandIn u) = true := by kernel_rfl
  exact (show Tryz.prog.wantsStandIn t = false by simpa using List.all_eq_true.1 hall t (by simpa using Array.mem_of_getElem? ht))
/-- ████ THE CARD ████ -/
theorem reconTurns_holds : Rows.ReconTurnsCardSaid :=
  Claim7.holds_tied_plain_at .later [] _ _ _ _ reconTurns_said (fun _ h => by cases h) (by kernel_rfl) (fun _ h => by cases h) reconTurns_row_tie rfl ⟨rfl, rfl⟩ (by kernel_rfl) rfl reconTurns_plain (by kernel_rfl)
#print axioms reconTurns_holds
end Go.Proofs.YteofiffbobbdmaaGreatDoor
