/-
  swinglelaw02.SumParts: a sum goes on from the state behind the first bytes.
  Whatever the input, the law's function returns true, and each argument reads behind the call as it read before.
-/
import Derived.Test.YthdmajhhioiaoaaLift
import Derived.Test.YthdmajhhioiaoaaSumPartsWalk
set_option linter.unusedVariables false
namespace Go.Proofs.Ythdmajhhioiaoaa
theorem sumParts_spec (H : Type) (ds : List (DataW H)) (h : ds.length = Try.f8.params.size) : Rows.sumPartsSpec.fn H ds = { results := [.lit (.bool true)], args := ds } := by
  have h' : ds.length = 3 := h
  match ds, h' with
  | [_, _, _], _ => rfl
set_option maxRecDepth 100000 in
theorem sumParts_lifted (os : Os) (started : os.Started) (H : Type) (enc : TypeId × Value → H) :
    ReturnsInHanded {} Try.checked os 8 .any (Rows.sumPartsSpec.pre6 enc Try.prog Try.f8 Rows.sumPartsRow.domain false) (Rows.sumPartsSpec.post enc Try.prog Try.f8 false true false false) :=
  lifted_of_walks 8 Try.f8 Rows.sumPartsSpec rfl sumParts_spec rfl (by kernel_rfl) Try.func8 (by kernel_rfl) sumParts_walk os started H enc
    (ChangeSpec.witness6 (enc := enc) (C := Try.checked) false ⟨#[], #[.string ByteArray.empty, .string ByteArray.empty, .int .u64 0], []⟩ 8 (by kernel_rfl) (by kernel_rfl) (by kernel_rfl) (by kernel_rfl))
/-- ████ THE STATEMENT ████ -/
theorem sumParts_holds : Rows.SumPartsSaid :=
  OpenClaim.holds_of_wide 8 Try.f8 rfl rfl rfl rfl rfl rfl rfl ⟨rfl, rfl, rfl, rfl, rfl⟩ rfl rfl rfl rfl rfl (by kernel_rfl) Try.func8 (by kernel_rfl)
    (of_decide_eq_true (by kernel_rfl)) (by unfold Func.isWrapper; rw [if_neg (of_decide_eq_false (by kernel_rfl))]; exact ⟨rfl, rfl⟩)
    (fun os started H enc _ => sumParts_lifted os started H enc)
#print axioms sumParts_holds
end Go.Proofs.Ythdmajhhioiaoaa
