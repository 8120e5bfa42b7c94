/-
  swinglelaw01.FieldNumbers: any number as any many bytes, and the number of any bytes.
  Whatever the input, the law's function returns true, and each argument reads behind the call as it read before.
-/
import Derived.Test.YthdmajhhioiaoaaLift
import Derived.Test.YthdmajhhioiaoaaFieldNumbersWalk
set_option linter.unusedVariables false
namespace Go.Proofs.Ythdmajhhioiaoaa
theorem fieldNumbers_spec (H : Type) (ds : List (DataW H)) (h : ds.length = Try.f3.params.size) : Rows.fieldNumbersSpec.fn H ds = { results := [.lit (.bool true)], args := ds } := by
  have h' : ds.length = 3 := h
  match ds, h' with
  | [_, _, _], _ => rfl
set_option maxRecDepth 100000 in
theorem fieldNumbers_lifted (os : Os) (started : os.Started) (H : Type) (enc : TypeId × Value → H) :
    ReturnsInHanded {} Try.checked os 3 .any (Rows.fieldNumbersSpec.pre6 enc Try.prog Try.f3 Rows.fieldNumbersRow.domain false) (Rows.fieldNumbersSpec.post enc Try.prog Try.f3 false true false false) :=
  lifted_of_walks 3 Try.f3 Rows.fieldNumbersSpec rfl fieldNumbers_spec rfl (by kernel_rfl) Try.func3 (by kernel_rfl) fieldNumbers_walk os started H enc
    (ChangeSpec.witness6 (enc := enc) (C := Try.checked) false ⟨#[], #[.int .u64 0, .int .i64 0, .string ByteArray.empty], []⟩ 8 (by kernel_rfl) (by kernel_rfl) (by kernel_rfl) (by kernel_rfl))
/-- ████ THE STATEMENT ████ -/
theorem fieldNumbers_holds : Rows.FieldNumbersSaid :=
  OpenClaim.holds_of_wide 3 Try.f3 rfl rfl rfl rfl rfl rfl rfl ⟨rfl, rfl, rfl, rfl, rfl⟩ rfl rfl rfl rfl rfl (by kernel_rfl) Try.func3 (by kernel_rfl)
    (of_decide_eq_true (by kernel_rfl)) (by unfold Func.isWrapper; rw [if_neg (of_decide_eq_false (by kernel_rfl))]; exact ⟨rfl, rfl⟩)
    (fun os started H enc _ => fieldNumbers_lifted os started H enc)
#print axioms fieldNumbers_holds
end Go.Proofs.Ythdmajhhioiaoaa
