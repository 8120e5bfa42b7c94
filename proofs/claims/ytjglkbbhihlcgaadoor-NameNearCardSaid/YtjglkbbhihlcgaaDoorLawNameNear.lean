/-
  swinglelaw13.NameNear: a path stands behind all of its ups; what stands between a path and something under it is under it, too
  Whatever the input, the law's function returns true, and each argument reads behind the call as it read before. The row lists two tables of the library, which the walk does not read; the witness lays them.
-/
import Derived.Test.YtjglkbbhihlcgaaDoorLiftL
import Derived.Test.YtjglkbbhihlcgaaDoorNameNearWalk
set_option linter.unusedVariables false
namespace Go.Proofs.YtjglkbbhihlcgaaDoor
open Go.ChangeShapes Go.WideShapes Go.ChangeAt Go.RowKit
theorem nameNear_spec (H : Type) (ds : List (DataW H)) (h : ds.length = Tryd.f8.params.size) : Rows.nameNearSpec.fn H ds = { results := [.lit (.bool true)], args := ds } := by
  have h' : ds.length = 3 := h
  match ds, h' with
  | [_, _, _], _ => rfl
set_option maxRecDepth 100000 in
theorem nameNear_lifted (os : Os) (started : os.Started) (H : Type) (enc : TypeId × Value → H) :
    ReturnsInHanded {} Tryd.checked os 8 .any (fun w args => (Rows.nameNearSpec.pre enc Tryd.prog Tryd.f8 Rows.nameNearRow.domain false w args ∧ laidMetH Tryd.prog Rows.nameNearRow.laid w) ∧ sizedMet enc Tryd.prog Tryd.f8 (OpenSpec.ofChange Rows.nameNearSpec) false w args)
      (Rows.nameNearSpec.post enc Tryd.prog Tryd.f8 false true false false) :=
  lifted_laid 8 Tryd.f8 Rows.nameNearSpec rfl nameNear_spec rfl (by kernel_rfl) Tryd.func8 (by kernel_rfl) nameNear_walk os started H enc Rows.nameNearRow.domain Rows.nameNearRow.laid
    (ChangeSpec.witness_shaped (enc := enc) (C := Tryd.checked) (os := os) (X := fun w _ => laidMetH Tryd.prog Rows.nameNearRow.laid w) false (World.laidAll Tryd.prog os Rows.nameNearRow.laid) #[.string ByteArray.empty, .string ByteArray.empty, .string ByteArray.empty] 8 (World.laidAll_os _ _ _)
      (World.shaped_of_ZipB (by kernel_rfl) (by kernel_rfl)) (by kernel_rfl) (by kernel_rfl) (by kernel_rfl)
      (by rw [MakeChecks.laidMetH_plain _ _ _ (by kernel_rfl)]; exact laidMet_laidAll _ (by kernel_rfl) (by kernel_rfl)))
theorem nameNear_said : Rows.NameNearSaid :=
  OpenClaim.holds_of_wide 8 Tryd.f8 rfl rfl rfl rfl rfl rfl rfl ⟨rfl, rfl, rfl, rfl, rfl⟩ rfl rfl rfl rfl rfl (by kernel_rfl) Tryd.func8 (by kernel_rfl)
    (of_decide_eq_true (by kernel_rfl)) (by unfold Func.isWrapper; rw [if_neg (of_decide_eq_false (by kernel_rfl))]; exact ⟨rfl, rfl⟩)
    (fun os started H enc _ => nameNear_lifted os started H enc)
theorem nameNear_plain (f : FuncId) (fn : Func) (hf : Tryd.pinned.checked.prog.funcNamed "swingle/swinglelaw13.NameNear" = some f) (hfn : Tryd.pinned.checked.prog.funcs[f]? = some fn) :
    false = Tryd.pinned.checked.prog.looks [] ∧ ∀ (j : Nat) t, fn.params[j]? = some t → Tryd.pinned.checked.prog.wantsStandIn t = false := by
  obtain rfl : f = 8 := Option.some.inj ((show Tryd.prog.funcNamed "swingle/swinglelaw13.NameNear" = some 8 by kernel_rfl).symm.trans hf) |>.symm
  obtain rfl : fn = Tryd.f8 := (Option.some.inj (Tryd.func8.symm.trans hfn)).symm
  refine ⟨by kernel_rfl, fun j t ht => ?_⟩
  have hall : (Tryd.f8.params.toList.all fun u => !Tryd.prog.wantsStandIn u) = true := by kernel_rfl
  exact (show Tryd.prog.wantsStandIn t = false by simpa using List.all_eq_true.1 hall t (by simpa using Array.mem_of_getElem? ht))
/-- ████ THE CARD ████ -/
theorem nameNear_holds : Rows.NameNearCardSaid :=
  Claim7.holds_tied_plain_at .later [] _ _ _ _ nameNear_said (fun _ h => by cases h) (by kernel_rfl) (fun _ h => by cases h) nameNear_row_tie rfl ⟨rfl, rfl⟩ (by kernel_rfl) rfl nameNear_plain (by kernel_rfl)
#print axioms nameNear_holds
end Go.Proofs.YtjglkbbhihlcgaaDoor
