/-
  swinglelaw12.DosTexts: the text of any time, and the time of any text.
  Whatever the input, the law's function returns true, and each argument reads behind the call as it read before.
-/
import Derived.Test.YthmlfeaoaanmoaaLift
import Derived.Test.YthmlfeaoaanmoaaDosTextsWalk
set_option linter.unusedVariables false
namespace Go.Proofs.Ythmlfeaoaanmoaa
theorem dosTexts_spec (H : Type) (ds : List (DataW H)) (h : ds.length = Try.f4.params.size) : Rows.dosTextsSpec.fn H ds = { results := [.lit (.bool true)], args := ds } := by
  have h' : ds.length = 2 := h
  match ds, h' with
  | [_, _], _ => rfl
set_option maxRecDepth 100000 in
theorem dosTexts_lifted (os : Os) (started : os.Started) (H : Type) (enc : TypeId × Value → H) :
    ReturnsInHanded {} Try.checked os 4 .any (Rows.dosTextsSpec.pre6 enc Try.prog Try.f4 Rows.dosTextsRow.domain false) (Rows.dosTextsSpec.post enc Try.prog Try.f4 false true false false) :=
  lifted_of_walks 4 Try.f4 Rows.dosTextsSpec rfl dosTexts_spec rfl (by kernel_rfl) Try.func4 (by kernel_rfl) dosTexts_walk os started H enc
    (ChangeSpec.witness6 (enc := enc) (C := Try.checked) false ⟨#[], #[.int .u32 0, .string ByteArray.empty], []⟩ 8 (by kernel_rfl) (by kernel_rfl) (by kernel_rfl) (by kernel_rfl))
/-- ████ THE STATEMENT ████ -/
theorem dosTexts_holds : Rows.DosTextsSaid :=
  OpenClaim.holds_of_wide 4 Try.f4 rfl rfl rfl rfl rfl rfl rfl ⟨rfl, rfl, rfl, rfl, rfl⟩ rfl rfl rfl rfl rfl (by kernel_rfl) Try.func4 (by kernel_rfl)
    (of_decide_eq_true (by kernel_rfl)) (by unfold Func.isWrapper; rw [if_neg (of_decide_eq_false (by kernel_rfl))]; exact ⟨rfl, rfl⟩)
    (fun os started H enc _ => dosTexts_lifted os started H enc)
#print axioms dosTexts_holds
end Go.Proofs.Ythmlfeaoaanmoaa
