/-
  swinglelaw09.RunsOf: the steps of any row of lengths, how often each symbol comes, and how many bits any has
  Whatever the input, the law's function returns true, and each argument reads behind the call as it read before.
-/
import Derived.Test.YthmlfeaoaanmoaaLift
import Derived.Test.YthmlfeaoaanmoaaRunsOfWalk
set_option linter.unusedVariables false
namespace Go.Proofs.Ythmlfeaoaanmoaa
theorem runsOf_spec (H : Type) (ds : List (DataW H)) (h : ds.length = Try.f7.params.size) : Rows.runsOfSpec.fn H ds = { results := [.lit (.bool true)], args := ds } := by
  have h' : ds.length = 2 := h
  match ds, h' with
  | [_, _], _ => rfl
set_option maxRecDepth 100000 in
theorem runsOf_lifted (os : Os) (started : os.Started) (H : Type) (enc : TypeId × Value → H) :
    ReturnsInHanded {} Try.checked os 7 .any (Rows.runsOfSpec.pre6 enc Try.prog Try.f7 Rows.runsOfRow.domain false) (Rows.runsOfSpec.post enc Try.prog Try.f7 false true false false) :=
  lifted_of_walks 7 Try.f7 Rows.runsOfSpec rfl runsOf_spec rfl (by kernel_rfl) Try.func7 (by kernel_rfl) runsOf_walk os started H enc
    (ChangeSpec.witness6 (enc := enc) (C := Try.checked) false ⟨#[], #[.slice none 0 0, .int .i64 0], []⟩ 8 (by kernel_rfl) (by kernel_rfl) (by kernel_rfl) (by kernel_rfl))
/-- ████ THE STATEMENT ████ -/
theorem runsOf_holds : Rows.RunsOfSaid :=
  OpenClaim.holds_of_wide 7 Try.f7 rfl rfl rfl rfl rfl rfl rfl ⟨rfl, rfl, rfl, rfl, rfl⟩ rfl rfl rfl rfl rfl (by kernel_rfl) Try.func7 (by kernel_rfl)
    (of_decide_eq_true (by kernel_rfl)) (by unfold Func.isWrapper; rw [if_neg (of_decide_eq_false (by kernel_rfl))]; exact ⟨rfl, rfl⟩)
    (fun os started H enc _ => runsOf_lifted os started H enc)
#print axioms runsOf_holds
end Go.Proofs.Ythmlfeaoaanmoaa
