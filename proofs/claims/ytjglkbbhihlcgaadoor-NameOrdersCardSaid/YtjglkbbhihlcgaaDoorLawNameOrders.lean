/-
  swinglelaw13.NameOrders: how any two paths stand, and whether one is under the other one
  Whatever the input, the law's function returns true, and each argument reads behind the call as it read before. The row lists two tables of the library, which the walk does not read; the witness lays them.
-/
import Derived.Test.YtjglkbbhihlcgaaDoorLiftL
import Derived.Test.YtjglkbbhihlcgaaDoorNameOrdersWalk
set_option linter.unusedVariables false
namespace Go.Proofs.YtjglkbbhihlcgaaDoor
open Go.ChangeShapes Go.WideShapes Go.ChangeAt Go.RowKit
theorem nameOrders_spec (H : Type) (ds : List (DataW H)) (h : ds.length = Tryd.f7.params.size) : Rows.nameOrdersSpec.fn H ds = { results := [.lit (.bool true)], args := ds } := by
  have h' : ds.length = 2 := h
  match ds, h' with
  | [_, _], _ => rfl
set_option maxRecDepth 100000 in
theorem nameOrders_lifted (os : Os) (started : os.Started) (H : Type) (enc : TypeId × Value → H) :
    ReturnsInHanded {} Tryd.checked os 7 .any (fun w args => (Rows.nameOrdersSpec.pre enc Tryd.prog Tryd.f7 Rows.nameOrdersRow.domain false w args ∧ laidMetH Tryd.prog Rows.nameOrdersRow.laid w) ∧ sizedMet enc Tryd.prog Tryd.f7 (OpenSpec.ofChange Rows.nameOrdersSpec) false w args)
      (Rows.nameOrdersSpec.post enc Tryd.prog Tryd.f7 false true false false) :=
  lifted_laid 7 Tryd.f7 Rows.nameOrdersSpec rfl nameOrders_spec rfl (by kernel_rfl) Tryd.func7 (by kernel_rfl) nameOrders_walk os started H enc Rows.nameOrdersRow.domain Rows.nameOrdersRow.laid
    (ChangeSpec.witness_shaped (enc := enc) (C := Tryd.checked) (os := os) (X := fun w _ => laidMetH Tryd.prog Rows.nameOrdersRow.laid w) false (World.laidAll Tryd.prog os Rows.nameOrdersRow.laid) #[.string ByteArray.empty, .string ByteArray.empty] 8 (World.laidAll_os _ _ _)
      (World.shaped_of_ZipB (by kernel_rfl) (by kernel_rfl)) (by kernel_rfl) (by kernel_rfl) (by kernel_rfl)
      (by rw [MakeChecks.laidMetH_plain _ _ _ (by kernel_rfl)]; exact laidMet_laidAll _ (by kernel_rfl) (by kernel_rfl)))
theorem nameOrders_said : Rows.NameOrdersSaid :=
  OpenClaim.holds_of_wide 7 Tryd.f7 rfl rfl rfl rfl rfl rfl rfl ⟨rfl, rfl, rfl, rfl, rfl⟩ rfl rfl rfl rfl rfl (by kernel_rfl) Tryd.func7 (by kernel_rfl)
    (of_decide_eq_true (by kernel_rfl)) (by unfold Func.isWrapper; rw [if_neg (of_decide_eq_false (by kernel_rfl))]; exact ⟨rfl, rfl⟩)
    (fun os started H enc _ => nameOrders_lifted os started H enc)
theorem nameOrders_plain (f : FuncId) (fn : Func) (hf : Tryd.pinned.checked.prog.funcNamed "swingle/swinglelaw13.NameOrders" = some f) (hfn : Tryd.pinned.checked.prog.funcs[f]? = some fn) :
    false = Tryd.pinned.checked.prog.looks [] ∧ ∀ (j : Nat) t, fn.params[j]? = some t → Tryd.pinned.checked.prog.wantsStandIn t = false := by
  obtain rfl : f = 7 := Option.some.inj ((show Tryd.prog.funcNamed "swingle/swinglelaw13.NameOrders" = some 7 by kernel_rfl).symm.trans hf) |>.symm
  obtain rfl : fn = Tryd.f7 := (Option.some.inj (Tryd.func7.symm.trans hfn)).symm
  refine ⟨by kernel_rfl, fun j t ht => ?_⟩
  have hall : (Tryd.f7.params.toList.all fun u => !Tryd.prog.wantsStandIn u) = true := by kernel_rfl
  exact (show Tryd.prog.wantsStandIn t = false by simpa using List.all_eq_true.1 hall t (by simpa using Array.mem_of_getElem? ht))
/-- ████ THE CARD ████ -/
theorem nameOrders_holds : Rows.NameOrdersCardSaid :=
  Claim7.holds_tied_plain_at .later [] _ _ _ _ nameOrders_said (fun _ h => by cases h) (by kernel_rfl) (fun _ h => by cases h) nameOrders_row_tie rfl ⟨rfl, rfl⟩ (by kernel_rfl) rfl nameOrders_plain (by kernel_rfl)
#print axioms nameOrders_holds
end Go.Proofs.YtjglkbbhihlcgaaDoor
