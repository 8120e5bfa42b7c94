/-
  swinglelaw15.SortedJoins: two maps side by side, and one of those that are wanted
  Whatever the input, the law's function returns true, and each argument reads behind the call as it read before.
-/
import Derived.Test.YtpnkgldpmalklaaLift
import Derived.Test.YtpnkgldpmalklaaSortedJoinsWalk
set_option linter.unusedVariables false
namespace Go.Proofs.Ytpnkgldpmalklaa
theorem sortedJoins_spec (H : Type) (ds : List (DataW H)) (h : ds.length = Try.f5.params.size) : Rows.sortedJoinsSpec.fn H ds = { results := [.lit (.bool true)], args := ds } := by
  have h' : ds.length = 3 := h
  match ds, h' with
  | [_, _, _], _ => rfl
set_option maxRecDepth 100000 in
theorem sortedJoins_lifted (os : Os) (started : os.Started) (H : Type) (enc : TypeId × Value → H) :
    ReturnsInHanded {} Try.checked os 5 .any (Rows.sortedJoinsSpec.pre6 enc Try.prog Try.f5 Rows.sortedJoinsRow.domain false) (Rows.sortedJoinsSpec.post enc Try.prog Try.f5 false true false false) :=
  lifted_of_walks 5 Try.f5 Rows.sortedJoinsSpec rfl sortedJoins_spec rfl (by kernel_rfl) Try.func5 (by kernel_rfl) sortedJoins_walk os started H enc
    (ChangeSpec.witness6 (enc := enc) (C := Try.checked) false ⟨#[], #[.slice none 0 0, .slice none 0 0, .int .i64 0], []⟩ 8 (by kernel_rfl) (by kernel_rfl) (by kernel_rfl) (by kernel_rfl))
/-- ████ THE STATEMENT ████ -/
theorem sortedJoins_holds : Rows.SortedJoinsSaid :=
  OpenClaim.holds_of_wide 5 Try.f5 rfl rfl rfl rfl rfl rfl rfl ⟨rfl, rfl, rfl, rfl, rfl⟩ rfl rfl rfl rfl rfl (by kernel_rfl) Try.func5 (by kernel_rfl)
    (of_decide_eq_true (by kernel_rfl)) (by unfold Func.isWrapper; rw [if_neg (of_decide_eq_false (by kernel_rfl))]; exact ⟨rfl, rfl⟩)
    (fun os started H enc _ => sortedJoins_lifted os started H enc)
#print axioms sortedJoins_holds
end Go.Proofs.Ytpnkgldpmalklaa
