/-
  swinglelaw25.CommitWrites: which marks may be, the sector of any, and the mark of any bytes.
  Whatever the input, the law's function returns true, and each argument reads behind the call as it read before.
-/
import Derived.Test.YtpnkgldpmalklaaLift
import Derived.Test.YtpnkgldpmalklaaCommitWritesWalk
set_option linter.unusedVariables false
namespace Go.Proofs.Ytpnkgldpmalklaa
theorem commitWrites_spec (H : Type) (ds : List (DataW H)) (h : ds.length = Try.f8.params.size) : Rows.commitWritesSpec.fn H ds = { results := [.lit (.bool true)], args := ds } := by
  have h' : ds.length = 2 := h
  match ds, h' with
  | [_, _], _ => rfl
set_option maxRecDepth 100000 in
theorem commitWrites_lifted (os : Os) (started : os.Started) (H : Type) (enc : TypeId × Value → H) :
    ReturnsInHanded {} Try.checked os 8 .any (Rows.commitWritesSpec.pre6 enc Try.prog Try.f8 Rows.commitWritesRow.domain false) (Rows.commitWritesSpec.post enc Try.prog Try.f8 false true false false) :=
  lifted_of_walks 8 Try.f8 Rows.commitWritesSpec rfl commitWrites_spec rfl (by kernel_rfl) Try.func8 (by kernel_rfl) commitWrites_walk os started H enc
    (ChangeSpec.witness6 (enc := enc) (C := Try.checked) false ⟨#[], #[.agg #[.int .i64 0, .int .i64 0], .string ByteArray.empty], []⟩ 8 (by kernel_rfl) (by kernel_rfl) (by kernel_rfl) (by kernel_rfl))
/-- ████ THE STATEMENT ████ -/
theorem commitWrites_holds : Rows.CommitWritesSaid :=
  OpenClaim.holds_of_wide 8 Try.f8 rfl rfl rfl rfl rfl rfl rfl ⟨rfl, rfl, rfl, rfl, rfl⟩ rfl rfl rfl rfl rfl (by kernel_rfl) Try.func8 (by kernel_rfl)
    (of_decide_eq_true (by kernel_rfl)) (by unfold Func.isWrapper; rw [if_neg (of_decide_eq_false (by kernel_rfl))]; exact ⟨rfl, rfl⟩)
    (fun os started H enc _ => commitWrites_lifted os started H enc)
#print axioms commitWrites_holds
end Go.Proofs.Ytpnkgldpmalklaa
