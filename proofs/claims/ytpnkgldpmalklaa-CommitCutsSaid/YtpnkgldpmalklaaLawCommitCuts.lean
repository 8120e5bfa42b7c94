/-
  swinglelaw25.CommitCuts: any bytes as sectors, and how many any many bytes are.
  Whatever the input, the law's function returns true, and each argument reads behind the call as it read before.
-/
import Derived.Test.YtpnkgldpmalklaaLift
import Derived.Test.YtpnkgldpmalklaaCommitCutsWalk
set_option linter.unusedVariables false
namespace Go.Proofs.Ytpnkgldpmalklaa
theorem commitCuts_spec (H : Type) (ds : List (DataW H)) (h : ds.length = Try.f10.params.size) : Rows.commitCutsSpec.fn H ds = { results := [.lit (.bool true)], args := ds } := by
  have h' : ds.length = 2 := h
  match ds, h' with
  | [_, _], _ => rfl
set_option maxRecDepth 100000 in
theorem commitCuts_lifted (os : Os) (started : os.Started) (H : Type) (enc : TypeId × Value → H) :
    ReturnsInHanded {} Try.checked os 10 .any (Rows.commitCutsSpec.pre6 enc Try.prog Try.f10 Rows.commitCutsRow.domain false) (Rows.commitCutsSpec.post enc Try.prog Try.f10 false true false false) :=
  lifted_of_walks 10 Try.f10 Rows.commitCutsSpec rfl commitCuts_spec rfl (by kernel_rfl) Try.func10 (by kernel_rfl) commitCuts_walk os started H enc
    (ChangeSpec.witness6 (enc := enc) (C := Try.checked) false ⟨#[], #[.string ByteArray.empty, .int .i64 0], []⟩ 8 (by kernel_rfl) (by kernel_rfl) (by kernel_rfl) (by kernel_rfl))
/-- ████ THE STATEMENT ████ -/
theorem commitCuts_holds : Rows.CommitCutsSaid :=
  OpenClaim.holds_of_wide 10 Try.f10 rfl rfl rfl rfl rfl rfl rfl ⟨rfl, rfl, rfl, rfl, rfl⟩ rfl rfl rfl rfl rfl (by kernel_rfl) Try.func10 (by kernel_rfl)
    (of_decide_eq_true (by kernel_rfl)) (by unfold Func.isWrapper; rw [if_neg (of_decide_eq_false (by kernel_rfl))]; exact ⟨rfl, rfl⟩)
    (fun os started H enc _ => commitCuts_lifted os started H enc)
#print axioms commitCuts_holds
end Go.Proofs.Ytpnkgldpmalklaa
