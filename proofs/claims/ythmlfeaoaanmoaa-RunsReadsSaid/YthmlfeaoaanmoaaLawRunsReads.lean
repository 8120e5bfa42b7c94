/-
  swinglelaw09.RunsReads: the row of any steps, or that there is none
  Whatever the input, the law's function returns true, and each argument reads behind the call as it read before.
-/
import Derived.Test.YthmlfeaoaanmoaaLift
import Derived.Test.YthmlfeaoaanmoaaRunsReadsWalk
set_option linter.unusedVariables false
namespace Go.Proofs.Ythmlfeaoaanmoaa
theorem runsReads_spec (H : Type) (ds : List (DataW H)) (h : ds.length = Try.f8.params.size) : Rows.runsReadsSpec.fn H ds = { results := [.lit (.bool true)], args := ds } := by
  have h' : ds.length = 1 := h
  match ds, h' with
  | [_], _ => rfl
set_option maxRecDepth 100000 in
theorem runsReads_lifted (os : Os) (started : os.Started) (H : Type) (enc : TypeId × Value → H) :
    ReturnsInHanded {} Try.checked os 8 .any (Rows.runsReadsSpec.pre6 enc Try.prog Try.f8 Rows.runsReadsRow.domain false) (Rows.runsReadsSpec.post enc Try.prog Try.f8 false true false false) :=
  lifted_of_walks 8 Try.f8 Rows.runsReadsSpec rfl runsReads_spec rfl (by kernel_rfl) Try.func8 (by kernel_rfl) runsReads_walk os started H enc
    (ChangeSpec.witness6 (enc := enc) (C := Try.checked) false ⟨#[], #[.slice none 0 0], []⟩ 8 (by kernel_rfl) (by kernel_rfl) (by kernel_rfl) (by kernel_rfl))
/-- ████ THE STATEMENT ████ -/
theorem runsReads_holds : Rows.RunsReadsSaid :=
  OpenClaim.holds_of_wide 8 Try.f8 rfl rfl rfl rfl rfl rfl rfl ⟨rfl, rfl, rfl, rfl, rfl⟩ rfl rfl rfl rfl rfl (by kernel_rfl) Try.func8 (by kernel_rfl)
    (of_decide_eq_true (by kernel_rfl)) (by unfold Func.isWrapper; rw [if_neg (of_decide_eq_false (by kernel_rfl))]; exact ⟨rfl, rfl⟩)
    (fun os started H enc _ => runsReads_lifted os started H enc)
#print axioms runsReads_holds
end Go.Proofs.Ythmlfeaoaanmoaa
