/-
  swinglelaw29.DetectStates: what became of any node since any print
  Whatever the input, the law's function returns true, and each argument reads behind the call as it read before.
-/
import Derived.Test.YtpnkgldpmalklaaLift
import Derived.Test.YtpnkgldpmalklaaDetStatesWalk
set_option linter.unusedVariables false
namespace Go.Proofs.Ytpnkgldpmalklaa
theorem detectStates_spec (H : Type) (ds : List (DataW H)) (h : ds.length = Try.f6.params.size) : Rows.detectStatesSpec.fn H ds = { results := [.lit (.bool true)], args := ds } := by
  have h' : ds.length = 3 := h
  match ds, h' with
  | [_, _, _], _ => rfl
set_option maxRecDepth 100000 in
theorem detectStates_lifted (os : Os) (started : os.Started) (H : Type) (enc : TypeId × Value → H) :
    ReturnsInHanded {} Try.checked os 6 .any (Rows.detectStatesSpec.pre6 enc Try.prog Try.f6 Rows.detectStatesRow.domain false) (Rows.detectStatesSpec.post enc Try.prog Try.f6 false true false false) :=
  lifted_of_walks 6 Try.f6 Rows.detectStatesSpec rfl detectStates_spec rfl (by kernel_rfl) Try.func6 (by kernel_rfl) detectStates_walk os started H enc
    (ChangeSpec.witness6 (enc := enc) (C := Try.checked) false ⟨#[], #[.agg #[.int .i64 0, .int .i64 0, .int .u32 0, .int .i64 0, .int .u32 0], .bool false, .agg #[.int .i64 0, .int .i64 0, .int .u32 0, .string ByteArray.empty]], []⟩ 8 (by kernel_rfl) (by kernel_rfl) (by kernel_rfl) (by kernel_rfl))
/-- ████ THE STATEMENT ████ -/
theorem detectStates_holds : Rows.DetectStatesSaid :=
  OpenClaim.holds_of_wide 6 Try.f6 rfl rfl rfl rfl rfl rfl rfl ⟨rfl, rfl, rfl, rfl, rfl⟩ rfl rfl rfl rfl rfl (by kernel_rfl) Try.func6 (by kernel_rfl)
    (of_decide_eq_true (by kernel_rfl)) (by unfold Func.isWrapper; rw [if_neg (of_decide_eq_false (by kernel_rfl))]; exact ⟨rfl, rfl⟩)
    (fun os started H enc _ => detectStates_lifted os started H enc)
#print axioms detectStates_holds
end Go.Proofs.Ytpnkgldpmalklaa
