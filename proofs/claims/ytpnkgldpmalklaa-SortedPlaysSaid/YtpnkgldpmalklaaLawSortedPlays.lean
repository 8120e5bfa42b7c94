/-
  swinglelaw15.SortedPlays: any steps on a map of numbers and texts: what each tells, and all that is there then, from any key on, and from behind
  Whatever the input, the law's function returns true, and each argument reads behind the call as it read before.
-/
import Derived.Test.YtpnkgldpmalklaaLift
import Derived.Test.YtpnkgldpmalklaaSortedPlaysWalk
set_option linter.unusedVariables false
namespace Go.Proofs.Ytpnkgldpmalklaa
theorem sortedPlays_spec (H : Type) (ds : List (DataW H)) (h : ds.length = Try.f3.params.size) : Rows.sortedPlaysSpec.fn H ds = { results := [.lit (.bool true)], args := ds } := by
  have h' : ds.length = 3 := h
  match ds, h' with
  | [_, _, _], _ => rfl
set_option maxRecDepth 100000 in
theorem sortedPlays_lifted (os : Os) (started : os.Started) (H : Type) (enc : TypeId × Value → H) :
    ReturnsInHanded {} Try.checked os 3 .any (Rows.sortedPlaysSpec.pre6 enc Try.prog Try.f3 Rows.sortedPlaysRow.domain false) (Rows.sortedPlaysSpec.post enc Try.prog Try.f3 false true false false) :=
  lifted_of_walks 3 Try.f3 Rows.sortedPlaysSpec rfl sortedPlays_spec rfl (by kernel_rfl) Try.func3 (by kernel_rfl) sortedPlays_walk os started H enc
    (ChangeSpec.witness6 (enc := enc) (C := Try.checked) false ⟨#[], #[.slice none 0 0, .int .i64 0, .int .u64 0], []⟩ 8 (by kernel_rfl) (by kernel_rfl) (by kernel_rfl) (by kernel_rfl))
/-- ████ THE STATEMENT ████ -/
theorem sortedPlays_holds : Rows.SortedPlaysSaid :=
  OpenClaim.holds_of_wide 3 Try.f3 rfl rfl rfl rfl rfl rfl rfl ⟨rfl, rfl, rfl, rfl, rfl⟩ rfl rfl rfl rfl rfl (by kernel_rfl) Try.func3 (by kernel_rfl)
    (of_decide_eq_true (by kernel_rfl)) (by unfold Func.isWrapper; rw [if_neg (of_decide_eq_false (by kernel_rfl))]; exact ⟨rfl, rfl⟩)
    (fun os started H enc _ => sortedPlays_lifted os started H enc)
#print axioms sortedPlays_holds
end Go.Proofs.Ytpnkgldpmalklaa
