/-
  swinglelaw01.FieldReads: any steps of reading any text, by field.Reader and by the reference.
  Whatever the input, the law's function returns true, and each argument reads behind the call as it read before.
-/
import Derived.Test.YthdmajhhioiaoaaLift
import Derived.Test.YthdmajhhioiaoaaFieldReadsWalk
set_option linter.unusedVariables false
namespace Go.Proofs.Ythdmajhhioiaoaa
theorem fieldReads_spec (H : Type) (ds : List (DataW H)) (h : ds.length = Try.f6.params.size) : Rows.fieldReadsSpec.fn H ds = { results := [.lit (.bool true)], args := ds } := by
  have h' : ds.length = 2 := h
  match ds, h' with
  | [_, _], _ => rfl
set_option maxRecDepth 100000 in
theorem fieldReads_lifted (os : Os) (started : os.Started) (H : Type) (enc : TypeId × Value → H) :
    ReturnsInHanded {} Try.checked os 6 .any (Rows.fieldReadsSpec.pre6 enc Try.prog Try.f6 Rows.fieldReadsRow.domain false) (Rows.fieldReadsSpec.post enc Try.prog Try.f6 false true false false) :=
  lifted_of_walks 6 Try.f6 Rows.fieldReadsSpec rfl fieldReads_spec rfl (by kernel_rfl) Try.func6 (by kernel_rfl) fieldReads_walk os started H enc
    (ChangeSpec.witness6 (enc := enc) (C := Try.checked) false ⟨#[], #[.string ByteArray.empty, .slice none 0 0], []⟩ 8 (by kernel_rfl) (by kernel_rfl) (by kernel_rfl) (by kernel_rfl))
/-- ████ THE STATEMENT ████ -/
theorem fieldReads_holds : Rows.FieldReadsSaid :=
  OpenClaim.holds_of_wide 6 Try.f6 rfl rfl rfl rfl rfl rfl rfl ⟨rfl, rfl, rfl, rfl, rfl⟩ rfl rfl rfl rfl rfl (by kernel_rfl) Try.func6 (by kernel_rfl)
    (of_decide_eq_true (by kernel_rfl)) (by unfold Func.isWrapper; rw [if_neg (of_decide_eq_false (by kernel_rfl))]; exact ⟨rfl, rfl⟩)
    (fun os started H enc _ => fieldReads_lifted os started H enc)
#print axioms fieldReads_holds
end Go.Proofs.Ythdmajhhioiaoaa
