/-
  swinglelaw15.SortedAlike: in whatever order things are put, they stand alike; another one of the same goes its own way; of nil there is nothing
  Whatever the input, the law's function returns true, and each argument reads behind the call as it read before.
-/
import Derived.Test.YtpnkgldpmalklaaLift
import Derived.Test.YtpnkgldpmalklaaSortedAlikeWalk
set_option linter.unusedVariables false
namespace Go.Proofs.Ytpnkgldpmalklaa
theorem sortedAlike_spec (H : Type) (ds : List (DataW H)) (h : ds.length = Try.f4.params.size) : Rows.sortedAlikeSpec.fn H ds = { results := [.lit (.bool true)], args := ds } := by
  have h' : ds.length = 1 := h
  match ds, h' with
  | [_], _ => rfl
set_option maxRecDepth 100000 in
theorem sortedAlike_lifted (os : Os) (started : os.Started) (H : Type) (enc : TypeId × Value → H) :
    ReturnsInHanded {} Try.checked os 4 .any (Rows.sortedAlikeSpec.pre6 enc Try.prog Try.f4 Rows.sortedAlikeRow.domain false) (Rows.sortedAlikeSpec.post enc Try.prog Try.f4 false true false false) :=
  lifted_of_walks 4 Try.f4 Rows.sortedAlikeSpec rfl sortedAlike_spec rfl (by kernel_rfl) Try.func4 (by kernel_rfl) sortedAlike_walk os started H enc
    (ChangeSpec.witness6 (enc := enc) (C := Try.checked) false ⟨#[], #[.slice none 0 0], []⟩ 8 (by kernel_rfl) (by kernel_rfl) (by kernel_rfl) (by kernel_rfl))
/-- ████ THE STATEMENT ████ -/
theorem sortedAlike_holds : Rows.SortedAlikeSaid :=
  OpenClaim.holds_of_wide 4 Try.f4 rfl rfl rfl rfl rfl rfl rfl ⟨rfl, rfl, rfl, rfl, rfl⟩ rfl rfl rfl rfl rfl (by kernel_rfl) Try.func4 (by kernel_rfl)
    (of_decide_eq_true (by kernel_rfl)) (by unfold Func.isWrapper; rw [if_neg (of_decide_eq_false (by kernel_rfl))]; exact ⟨rfl, rfl⟩)
    (fun os started H enc _ => sortedAlike_lifted os started H enc)
#print axioms sortedAlike_holds
end Go.Proofs.Ytpnkgldpmalklaa
