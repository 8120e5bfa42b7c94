/-
  swinglelaw31.RegionSides: which policies there are, their names, which side is taken, and how new any items are
  Whatever the input, the law's function returns true, and each argument reads behind the call as it read before. The row lists two tables of the library, which the walk does not read; the witness lays them.
-/
import Derived.Test.YtnpehjgnplaabaaGreatDoorJoin1
import Derived.Test.YtnpehjgnplaabaaGreatDoorJoin45
set_option linter.unusedVariables false
namespace Go.Proofs.YtnpehjgnplaabaaGreatDoor
open Go.ChangeShapes Go.WideShapes Go.ChangeAt Go.RowKit
theorem regionSides_spec (H : Type) (ds : List (DataW H)) (h : ds.length = Tryz.f4.params.size) : Rows.regionSidesSpec.fn H ds = { results := [.lit (.bool true)], args := ds } := by
  have h' : ds.length = 3 := h
  match ds, h' with
  | [_, _, _], _ => rfl
set_option maxRecDepth 100000 in
theorem regionSides_lifted (os : Os) (started : os.Started) (H : Type) (enc : TypeId × Value → H) :
    ReturnsInHanded {} Tryz.checked os 4 .any (fun w args => (Rows.regionSidesSpec.pre enc Tryz.prog Tryz.f4 Rows.regionSidesRow.domain false w args ∧ laidMetH Tryz.prog Rows.regionSidesRow.laid w) ∧ sizedMet enc Tryz.prog Tryz.f4 (OpenSpec.ofChange Rows.regionSidesSpec) false w args)
      (Rows.regionSidesSpec.post enc Tryz.prog Tryz.f4 false true false false) :=
  lifted_laid 4 Tryz.f4 Rows.regionSidesSpec rfl regionSides_spec rfl (by kernel_rfl) Tryz.func4 (by kernel_rfl) regionSides_walk os started H enc Rows.regionSidesRow.domain Rows.regionSidesRow.laid
    (ChangeSpec.witness_shaped (enc := enc) (C := Tryz.checked) (os := os) (X := fun w _ => laidMetH Tryz.prog Rows.regionSidesRow.laid w) false (World.laidAll Tryz.prog os Rows.regionSidesRow.laid) #[.int .i64 0, .slice none 0 0, .slice none 0 0] 8 (World.laidAll_os _ _ _)
      (World.shaped_of_ZipB (by kernel_rfl) (by kernel_rfl)) (by kernel_rfl) (by kernel_rfl) (by kernel_rfl)
      (by rw [MakeChecks.laidMetH_plain _ _ _ (by kernel_rfl)]; exact laidMet_laidAll _ (by kernel_rfl) (by kernel_rfl)))
theorem regionSides_said : Rows.RegionSidesSaid :=
  OpenClaim.holds_of_wide 4 Tryz.f4 rfl rfl rfl rfl rfl rfl rfl ⟨rfl, rfl, rfl, rfl, rfl⟩ rfl rfl rfl rfl rfl (by kernel_rfl) Tryz.func4 (by kernel_rfl)
    (of_decide_eq_true (by kernel_rfl)) (by unfold Func.isWrapper; rw [if_neg (of_decide_eq_false (by kernel_rfl))]; exact ⟨rfl, rfl⟩)
    (fun os started H enc _ => regionSides_lifted os started H enc)
theorem regionSides_plain (f : FuncId) (fn : Func) (hf : Tryz.pinned.checked.prog.funcNamed "swingle/swinglelaw31.RegionSides" = some f) (hfn : Tryz.pinned.checked.prog.funcs[f]? = some fn) :
    false = Tryz.pinned.checked.prog.looks [] ∧ ∀ (j : Nat) t, fn.params[j]? = some t → Tryz.pinned.checked.prog.wantsStandIn t = false := by
  obtain rfl : f = 4 := Option.some.inj ((show Tryz.prog.funcNamed "swingle/swinglelaw31.RegionSides" = some 4 by kernel_rfl).symm.trans hf) |>.symm
  obtain rfl : fn = Tryz.f4 := (Option.some.inj (Tryz.func4.symm.trans hfn)).symm
  refine ⟨by kernel_rfl, fun j t ht => ?_⟩
  have hall : (Tryz.f4.params.toList.all fun u => !Tryz.prog.wantsStandIn u) = true := by kernel_rfl
  exact (show Tryz.prog.wantsStandIn t = false by simpa using List.all_eq_true.1 hall t (by simpa using Array.mem_of_getElem? ht))
/-- ████ THE CARD ████ -/
theorem regionSides_holds : Rows.RegionSidesCardSaid :=
  Claim7.holds_tied_plain_at .later [] _ _ _ _ regionSides_said (fun _ h => by cases h) (by kernel_rfl) (fun _ h => by cases h) regionSides_row_tie rfl ⟨rfl, rfl⟩ (by kernel_rfl) rfl regionSides_plain (by kernel_rfl)
#print axioms regionSides_holds
end Go.Proofs.YtnpehjgnplaabaaGreatDoor
