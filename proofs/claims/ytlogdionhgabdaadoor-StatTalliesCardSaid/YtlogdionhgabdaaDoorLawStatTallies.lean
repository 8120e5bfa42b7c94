/-
  swinglelaw39.StatTallies: how often any things were counted, all together, and what came most
  Whatever the input, the law's function returns true, and each argument reads behind the call as it read before. The row lists two tables of the library, which the walk does not read; the witness lays them.
-/
import Derived.Test.YtlogdionhgabdaaDoorJoin1
import Derived.Test.YtlogdionhgabdaaDoorJoin50
set_option linter.unusedVariables false
namespace Go.Proofs.YtlogdionhgabdaaDoor
open Go.ChangeShapes Go.WideShapes Go.ChangeAt Go.RowKit
theorem statTallies_spec (H : Type) (ds : List (DataW H)) (h : ds.length = Tryd.f3.params.size) : Rows.statTalliesSpec.fn H ds = { results := [.lit (.bool true)], args := ds } := by
  have h' : ds.length = 3 := h
  match ds, h' with
  | [_, _, _], _ => rfl
set_option maxRecDepth 100000 in
theorem statTallies_lifted (os : Os) (started : os.Started) (H : Type) (enc : TypeId × Value → H) :
    ReturnsInHanded {} Tryd.checked os 3 .any (fun w args => (Rows.statTalliesSpec.pre enc Tryd.prog Tryd.f3 Rows.statTalliesRow.domain false w args ∧ laidMetH Tryd.prog Rows.statTalliesRow.laid w) ∧ sizedMet enc Tryd.prog Tryd.f3 (OpenSpec.ofChange Rows.statTalliesSpec) false w args)
      (Rows.statTalliesSpec.post enc Tryd.prog Tryd.f3 false true false false) :=
  lifted_laid 3 Tryd.f3 Rows.statTalliesSpec rfl statTallies_spec rfl (by kernel_rfl) Tryd.func3 (by kernel_rfl) statTallies_walk os started H enc Rows.statTalliesRow.domain Rows.statTalliesRow.laid
    (ChangeSpec.witness_shaped (enc := enc) (C := Tryd.checked) (os := os) (X := fun w _ => laidMetH Tryd.prog Rows.statTalliesRow.laid w) false (World.laidAll Tryd.prog os Rows.statTalliesRow.laid) #[.slice none 0 0, .int .i64 0, .int .u64 0] 8 (World.laidAll_os _ _ _)
      (World.shaped_of_ZipB (by kernel_rfl) (by kernel_rfl)) (by kernel_rfl) (by kernel_rfl) (by kernel_rfl)
      (by rw [MakeChecks.laidMetH_plain _ _ _ (by kernel_rfl)]; exact laidMet_laidAll _ (by kernel_rfl) (by kernel_rfl)))
theorem statTallies_said : Rows.StatTalliesSaid :=
  OpenClaim.holds_of_wide 3 Tryd.f3 rfl rfl rfl rfl rfl rfl rfl ⟨rfl, rfl, rfl, rfl, rfl⟩ rfl rfl rfl rfl rfl (by kernel_rfl) Tryd.func3 (by kernel_rfl)
    (of_decide_eq_true (by kernel_rfl)) (by unfold Func.isWrapper; rw [if_neg (of_decide_eq_false (by kernel_rfl))]; exact ⟨rfl, rfl⟩)
    (fun os started H enc _ => statTallies_lifted os started H enc)
theorem statTallies_plain (f : FuncId) (fn : Func) (hf : Tryd.pinned.checked.prog.funcNamed "swingle/swinglelaw39.StatTallies" = some f) (hfn : Tryd.pinned.checked.prog.funcs[f]? = some fn) :
    false = Tryd.pinned.checked.prog.looks [] ∧ ∀ (j : Nat) t, fn.params[j]? = some t → Tryd.pinned.checked.prog.wantsStandIn t = false := by
  obtain rfl : f = 3 := Option.some.inj ((show Tryd.prog.funcNamed "swingle/swinglelaw39.StatTallies" = some 3 by kernel_rfl).symm.trans hf) |>.symm
  obtain rfl : fn = Tryd.f3 := (Option.some.inj (Tryd.func3.symm.trans hfn)).symm
  refine ⟨by kernel_rfl, fun j t ht => ?_⟩
  have hall : (Tryd.f3.params.toList.all fun u => !Tryd.prog.wantsStandIn u) = true := by kernel_rfl
  exact (show Tryd.prog.wantsStandIn t = false by simpa using List.all_eq_true.1 hall t (by simpa using Array.mem_of_getElem? ht))
/-- ████ THE CARD ████ -/
theorem statTallies_holds : Rows.StatTalliesCardSaid :=
  Claim7.holds_tied_plain_at .later [] _ _ _ _ statTallies_said (fun _ h => by cases h) (by kernel_rfl) (fun _ h => by cases h) statTallies_row_tie rfl ⟨rfl, rfl⟩ (by kernel_rfl) rfl statTallies_plain (by kernel_rfl)
#print axioms statTallies_holds
end Go.Proofs.YtlogdionhgabdaaDoor
