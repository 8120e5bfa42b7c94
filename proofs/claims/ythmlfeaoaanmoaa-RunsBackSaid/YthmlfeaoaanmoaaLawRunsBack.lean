/-
  swinglelaw09.RunsBack: without the document's answer: a row's steps make it again; there are never more of them than lengths
  Whatever the input, the law's function returns true, and each argument reads behind the call as it read before.
-/
import Derived.Test.YthmlfeaoaanmoaaLift
import Derived.Test.YthmlfeaoaanmoaaRunsBackWalk
set_option linter.unusedVariables false
namespace Go.Proofs.Ythmlfeaoaanmoaa
theorem runsBack_spec (H : Type) (ds : List (DataW H)) (h : ds.length = Try.f9.params.size) : Rows.runsBackSpec.fn H ds = { results := [.lit (.bool true)], args := ds } := by
  have h' : ds.length = 1 := h
  match ds, h' with
  | [_], _ => rfl
set_option maxRecDepth 100000 in
theorem runsBack_lifted (os : Os) (started : os.Started) (H : Type) (enc : TypeId × Value → H) :
    ReturnsInHanded {} Try.checked os 9 .any (Rows.runsBackSpec.pre6 enc Try.prog Try.f9 Rows.runsBackRow.domain false) (Rows.runsBackSpec.post enc Try.prog Try.f9 false true false false) :=
  lifted_of_walks 9 Try.f9 Rows.runsBackSpec rfl runsBack_spec rfl (by kernel_rfl) Try.func9 (by kernel_rfl) runsBack_walk os started H enc
    (ChangeSpec.witness6 (enc := enc) (C := Try.checked) false ⟨#[], #[.slice none 0 0], []⟩ 8 (by kernel_rfl) (by kernel_rfl) (by kernel_rfl) (by kernel_rfl))
/-- ████ THE STATEMENT ████ -/
theorem runsBack_holds : Rows.RunsBackSaid :=
  OpenClaim.holds_of_wide 9 Try.f9 rfl rfl rfl rfl rfl rfl rfl ⟨rfl, rfl, rfl, rfl, rfl⟩ rfl rfl rfl rfl rfl (by kernel_rfl) Try.func9 (by kernel_rfl)
    (of_decide_eq_true (by kernel_rfl)) (by unfold Func.isWrapper; rw [if_neg (of_decide_eq_false (by kernel_rfl))]; exact ⟨rfl, rfl⟩)
    (fun os started H enc _ => runsBack_lifted os started H enc)
#print axioms runsBack_holds
end Go.Proofs.Ythmlfeaoaanmoaa
