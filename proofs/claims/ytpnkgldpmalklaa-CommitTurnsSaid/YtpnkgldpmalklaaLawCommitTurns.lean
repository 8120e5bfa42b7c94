/-
  swinglelaw25.CommitTurns: a mark's sector is one, and is read as the mark; with one bit turned nothing is read.
  Whatever the input, the law's function returns true, and each argument reads behind the call as it read before.
-/
import Derived.Test.YtpnkgldpmalklaaLift
import Derived.Test.YtpnkgldpmalklaaCommitTurnsWalk
set_option linter.unusedVariables false
namespace Go.Proofs.Ytpnkgldpmalklaa
theorem commitTurns_spec (H : Type) (ds : List (DataW H)) (h : ds.length = Try.f9.params.size) : Rows.commitTurnsSpec.fn H ds = { results := [.lit (.bool true)], args := ds } := by
  have h' : ds.length = 3 := h
  match ds, h' with
  | [_, _, _], _ => rfl
set_option maxRecDepth 100000 in
theorem commitTurns_lifted (os : Os) (started : os.Started) (H : Type) (enc : TypeId × Value → H) :
    ReturnsInHanded {} Try.checked os 9 .any (Rows.commitTurnsSpec.pre6 enc Try.prog Try.f9 Rows.commitTurnsRow.domain false) (Rows.commitTurnsSpec.post enc Try.prog Try.f9 false true false false) :=
  lifted_of_walks 9 Try.f9 Rows.commitTurnsSpec rfl commitTurns_spec rfl (by kernel_rfl) Try.func9 (by kernel_rfl) commitTurns_walk os started H enc
    (ChangeSpec.witness6 (enc := enc) (C := Try.checked) false ⟨#[], #[.int .u64 0, .int .u64 0, .int .u64 0], []⟩ 8 (by kernel_rfl) (by kernel_rfl) (by kernel_rfl) (by kernel_rfl))
/-- ████ THE STATEMENT ████ -/
theorem commitTurns_holds : Rows.CommitTurnsSaid :=
  OpenClaim.holds_of_wide 9 Try.f9 rfl rfl rfl rfl rfl rfl rfl ⟨rfl, rfl, rfl, rfl, rfl⟩ rfl rfl rfl rfl rfl (by kernel_rfl) Try.func9 (by kernel_rfl)
    (of_decide_eq_true (by kernel_rfl)) (by unfold Func.isWrapper; rw [if_neg (of_decide_eq_false (by kernel_rfl))]; exact ⟨rfl, rfl⟩)
    (fun os started H enc _ => commitTurns_lifted os started H enc)
#print axioms commitTurns_holds
end Go.Proofs.Ytpnkgldpmalklaa
