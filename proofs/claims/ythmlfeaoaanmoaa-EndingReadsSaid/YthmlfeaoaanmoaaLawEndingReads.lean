/-
  swinglelaw21.EndingReads: any bytes as an end, from any place on, and the end that is found from behind, as the document's answer says.
  Whatever the input, the law's function returns true, and each argument reads behind the call as it read before.
-/
import Derived.Test.YthmlfeaoaanmoaaLift
import Derived.Test.YthmlfeaoaanmoaaEndingReadsWalk
set_option linter.unusedVariables false
namespace Go.Proofs.Ythmlfeaoaanmoaa
theorem endingReads_spec (H : Type) (ds : List (DataW H)) (h : ds.length = Try.f14.params.size) : Rows.endingReadsSpec.fn H ds = { results := [.lit (.bool true)], args := ds } := by
  have h' : ds.length = 2 := h
  match ds, h' with
  | [_, _], _ => rfl
set_option maxRecDepth 100000 in
theorem endingReads_lifted (os : Os) (started : os.Started) (H : Type) (enc : TypeId × Value → H) :
    ReturnsInHanded {} Try.checked os 14 .any (Rows.endingReadsSpec.pre6 enc Try.prog Try.f14 Rows.endingReadsRow.domain false) (Rows.endingReadsSpec.post enc Try.prog Try.f14 false true false false) :=
  lifted_of_walks 14 Try.f14 Rows.endingReadsSpec rfl endingReads_spec rfl (by kernel_rfl) Try.func14 (by kernel_rfl) endingReads_walk os started H enc
    (ChangeSpec.witness6 (enc := enc) (C := Try.checked) false ⟨#[], #[.string ByteArray.empty, .int .i64 0], []⟩ 8 (by kernel_rfl) (by kernel_rfl) (by kernel_rfl) (by kernel_rfl))
/-- ████ THE STATEMENT ████ -/
theorem endingReads_holds : Rows.EndingReadsSaid :=
  OpenClaim.holds_of_wide 14 Try.f14 rfl rfl rfl rfl rfl rfl rfl ⟨rfl, rfl, rfl, rfl, rfl⟩ rfl rfl rfl rfl rfl (by kernel_rfl) Try.func14 (by kernel_rfl)
    (of_decide_eq_true (by kernel_rfl)) (by unfold Func.isWrapper; rw [if_neg (of_decide_eq_false (by kernel_rfl))]; exact ⟨rfl, rfl⟩)
    (fun os started H enc _ => endingReads_lifted os started H enc)
#print axioms endingReads_holds
end Go.Proofs.Ythmlfeaoaanmoaa
