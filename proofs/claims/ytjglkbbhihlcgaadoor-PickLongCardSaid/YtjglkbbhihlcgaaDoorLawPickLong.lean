/-
  swinglelaw42.PickLong: many stars go fast, and end; texts that are too long match nothing
  Whatever the input, the law's function returns true, and each argument reads behind the call as it read before. The row lists two tables of the library, which the walk does not read; the witness lays them.
-/
import Derived.Test.YtjglkbbhihlcgaaDoorLiftL
import Derived.Test.YtjglkbbhihlcgaaDoorPickLongWalk
set_option linter.unusedVariables false
namespace Go.Proofs.YtjglkbbhihlcgaaDoor
open Go.ChangeShapes Go.WideShapes Go.ChangeAt Go.RowKit
theorem pickLong_spec (H : Type) (ds : List (DataW H)) (h : ds.length = Tryd.f4.params.size) : Rows.pickLongSpec.fn H ds = { results := [.lit (.bool true)], args := ds } := by
  have h' : ds.length = 1 := h
  match ds, h' with
  | [_], _ => rfl
set_option maxRecDepth 100000 in
theorem pickLong_lifted (os : Os) (started : os.Started) (H : Type) (enc : TypeId × Value → H) :
    ReturnsInHanded {} Tryd.checked os 4 .any (fun w args => (Rows.pickLongSpec.pre enc Tryd.prog Tryd.f4 Rows.pickLongRow.domain false w args ∧ laidMetH Tryd.prog Rows.pickLongRow.laid w) ∧ sizedMet enc Tryd.prog Tryd.f4 (OpenSpec.ofChange Rows.pickLongSpec) false w args)
      (Rows.pickLongSpec.post enc Tryd.prog Tryd.f4 false true false false) :=
  lifted_laid 4 Tryd.f4 Rows.pickLongSpec rfl pickLong_spec rfl (by kernel_rfl) Tryd.func4 (by kernel_rfl) pickLong_walk os started H enc Rows.pickLongRow.domain Rows.pickLongRow.laid
    (ChangeSpec.witness_shaped (enc := enc) (C := Tryd.checked) (os := os) (X := fun w _ => laidMetH Tryd.prog Rows.pickLongRow.laid w) false (World.laidAll Tryd.prog os Rows.pickLongRow.laid) #[.int .u64 0] 8 (World.laidAll_os _ _ _)
      (World.shaped_of_ZipB (by kernel_rfl) (by kernel_rfl)) (by kernel_rfl) (by kernel_rfl) (by kernel_rfl)
      (by rw [MakeChecks.laidMetH_plain _ _ _ (by kernel_rfl)]; exact laidMet_laidAll _ (by kernel_rfl) (by kernel_rfl)))
theorem pickLong_said : Rows.PickLongSaid :=
  OpenClaim.holds_of_wide 4 Tryd.f4 rfl rfl rfl rfl rfl rfl rfl ⟨rfl, rfl, rfl, rfl, rfl⟩ rfl rfl rfl rfl rfl (by kernel_rfl) Tryd.func4 (by kernel_rfl)
    (of_decide_eq_true (by kernel_rfl)) (by unfold Func.isWrapper; rw [if_neg (of_decide_eq_false (by kernel_rfl))]; exact ⟨rfl, rfl⟩)
    (fun os started H enc _ => pickLong_lifted os started H enc)
theorem pickLong_plain (f : FuncId) (fn : Func) (hf : Tryd.pinned.checked.prog.funcNamed "swingle/swinglelaw42.PickLong" = some f) (hfn : Tryd.pinned.checked.prog.funcs[f]? = some fn) :
    false = Tryd.pinned.checked.prog.looks [] ∧ ∀ (j : Nat) t, fn.params[j]? = some t → Tryd.pinned.checked.prog.wantsStandIn t = false := by
  obtain rfl : f = 4 := Option.some.inj ((show Tryd.prog.funcNamed "swingle/swinglelaw42.PickLong" = some 4 by kernel_rfl).symm.trans hf) |>.symm
  obtain rfl : fn = Tryd.f4 := (Option.some.inj (Tryd.func4.symm.trans hfn)).symm
  refine ⟨by kernel_rfl, fun j t ht => ?_⟩
  have hall : (Tryd.f4.params.toList.all fun u => !Tryd.prog.wantsStandIn u) = true := by kernel_rfl
  exact (show Tryd.prog.wantsStandIn t = false by simpa using List.all_eq_true.1 hall t (by simpa using Array.mem_of_getElem? ht))
/-- ████ THE CARD ████ -/
theorem pickLong_holds : Rows.PickLongCardSaid :=
  Claim7.holds_tied_plain_at .later [] _ _ _ _ pickLong_said (fun _ h => by cases h) (by kernel_rfl) (fun _ h => by cases h) pickLong_row_tie rfl ⟨rfl, rfl⟩ (by kernel_rfl) rfl pickLong_plain (by kernel_rfl)
#print axioms pickLong_holds
end Go.Proofs.YtjglkbbhihlcgaaDoor
