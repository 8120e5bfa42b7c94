/-
  swinglelaw42.PickMatches: whether any pattern matches any path
  Whatever the input, the law's function returns true, and each argument reads behind the call as it read before. The row lists two tables of the library, which the walk does not read; the witness lays them.
-/
import Derived.Test.YtjglkbbhihlcgaaDoorLiftL
import Derived.Test.YtjglkbbhihlcgaaDoorPickMatchesWalk
set_option linter.unusedVariables false
namespace Go.Proofs.YtjglkbbhihlcgaaDoor
open Go.ChangeShapes Go.WideShapes Go.ChangeAt Go.RowKit
theorem pickMatches_spec (H : Type) (ds : List (DataW H)) (h : ds.length = Tryd.f5.params.size) : Rows.pickMatchesSpec.fn H ds = { results := [.lit (.bool true)], args := ds } := by
  have h' : ds.length = 3 := h
  match ds, h' with
  | [_, _, _], _ => rfl
set_option maxRecDepth 100000 in
theorem pickMatches_lifted (os : Os) (started : os.Started) (H : Type) (enc : TypeId × Value → H) :
    ReturnsInHanded {} Tryd.checked os 5 .any (fun w args => (Rows.pickMatchesSpec.pre enc Tryd.prog Tryd.f5 Rows.pickMatchesRow.domain false w args ∧ laidMetH Tryd.prog Rows.pickMatchesRow.laid w) ∧ sizedMet enc Tryd.prog Tryd.f5 (OpenSpec.ofChange Rows.pickMatchesSpec) false w args)
      (Rows.pickMatchesSpec.post enc Tryd.prog Tryd.f5 false true false false) :=
  lifted_laid 5 Tryd.f5 Rows.pickMatchesSpec rfl pickMatches_spec rfl (by kernel_rfl) Tryd.func5 (by kernel_rfl) pickMatches_walk os started H enc Rows.pickMatchesRow.domain Rows.pickMatchesRow.laid
    (ChangeSpec.witness_shaped (enc := enc) (C := Tryd.checked) (os := os) (X := fun w _ => laidMetH Tryd.prog Rows.pickMatchesRow.laid w) false (World.laidAll Tryd.prog os Rows.pickMatchesRow.laid) #[.string ByteArray.empty, .string ByteArray.empty, .slice none 0 0] 8 (World.laidAll_os _ _ _)
      (World.shaped_of_ZipB (by kernel_rfl) (by kernel_rfl)) (by kernel_rfl) (by kernel_rfl) (by kernel_rfl)
      (by rw [MakeChecks.laidMetH_plain _ _ _ (by kernel_rfl)]; exact laidMet_laidAll _ (by kernel_rfl) (by kernel_rfl)))
theorem pickMatches_said : Rows.PickMatchesSaid :=
  OpenClaim.holds_of_wide 5 Tryd.f5 rfl rfl rfl rfl rfl rfl rfl ⟨rfl, rfl, rfl, rfl, rfl⟩ rfl rfl rfl rfl rfl (by kernel_rfl) Tryd.func5 (by kernel_rfl)
    (of_decide_eq_true (by kernel_rfl)) (by unfold Func.isWrapper; rw [if_neg (of_decide_eq_false (by kernel_rfl))]; exact ⟨rfl, rfl⟩)
    (fun os started H enc _ => pickMatches_lifted os started H enc)
theorem pickMatches_plain (f : FuncId) (fn : Func) (hf : Tryd.pinned.checked.prog.funcNamed "swingle/swinglelaw42.PickMatches" = some f) (hfn : Tryd.pinned.checked.prog.funcs[f]? = some fn) :
    false = Tryd.pinned.checked.prog.looks [] ∧ ∀ (j : Nat) t, fn.params[j]? = some t → Tryd.pinned.checked.prog.wantsStandIn t = false := by
  obtain rfl : f = 5 := Option.some.inj ((show Tryd.prog.funcNamed "swingle/swinglelaw42.PickMatches" = some 5 by kernel_rfl).symm.trans hf) |>.symm
  obtain rfl : fn = Tryd.f5 := (Option.some.inj (Tryd.func5.symm.trans hfn)).symm
  refine ⟨by kernel_rfl, fun j t ht => ?_⟩
  have hall : (Tryd.f5.params.toList.all fun u => !Tryd.prog.wantsStandIn u) = true := by kernel_rfl
  exact (show Tryd.prog.wantsStandIn t = false by simpa using List.all_eq_true.1 hall t (by simpa using Array.mem_of_getElem? ht))
/-- ████ THE CARD ████ -/
theorem pickMatches_holds : Rows.PickMatchesCardSaid :=
  Claim7.holds_tied_plain_at .later [] _ _ _ _ pickMatches_said (fun _ h => by cases h) (by kernel_rfl) (fun _ h => by cases h) pickMatches_row_tie rfl ⟨rfl, rfl⟩ (by kernel_rfl) rfl pickMatches_plain (by kernel_rfl)
#print axioms pickMatches_holds
end Go.Proofs.YtjglkbbhihlcgaaDoor
