/-
  swinglelaw30.ReconDecides: what is decided of any two nodes, by any print, and of which class a conflict of both is
  Whatever the input, the law's function returns true, and each argument reads behind the call as it read before.
-/
import Derived.Test.YtpnkgldpmalklaaLift
import Derived.Test.YtpnkgldpmalklaaReconDecidesWalk
set_option linter.unusedVariables false
namespace Go.Proofs.Ytpnkgldpmalklaa
theorem reconDecides_spec (H : Type) (ds : List (DataW H)) (h : ds.length = Try.f7.params.size) : Rows.reconDecidesSpec.fn H ds = { results := [.lit (.bool true)], args := ds } := by
  have h' : ds.length = 3 := h
  match ds, h' with
  | [_, _, _], _ => rfl
set_option maxRecDepth 100000 in
theorem reconDecides_lifted (os : Os) (started : os.Started) (H : Type) (enc : TypeId × Value → H) :
    ReturnsInHanded {} Try.checked os 7 .any (Rows.reconDecidesSpec.pre6 enc Try.prog Try.f7 Rows.reconDecidesRow.domain false) (Rows.reconDecidesSpec.post enc Try.prog Try.f7 false true false false) :=
  lifted_of_walks 7 Try.f7 Rows.reconDecidesSpec rfl reconDecides_spec rfl (by kernel_rfl) Try.func7 (by kernel_rfl) reconDecides_walk os started H enc
    (ChangeSpec.witness6 (enc := enc) (C := Try.checked) false ⟨#[], #[.agg #[.int .i64 0, .int .i64 0, .int .u32 0, .int .i64 0, .int .u32 0], .bool false, .agg #[.int .i64 0, .int .i64 0, .int .u32 0, .string ByteArray.empty, .int .i64 0, .int .i64 0, .int .u32 0, .string ByteArray.empty]], []⟩ 8 (by kernel_rfl) (by kernel_rfl) (by kernel_rfl) (by kernel_rfl))
/-- ████ THE STATEMENT ████ -/
theorem reconDecides_holds : Rows.ReconDecidesSaid :=
  OpenClaim.holds_of_wide 7 Try.f7 rfl rfl rfl rfl rfl rfl rfl ⟨rfl, rfl, rfl, rfl, rfl⟩ rfl rfl rfl rfl rfl (by kernel_rfl) Try.func7 (by kernel_rfl)
    (of_decide_eq_true (by kernel_rfl)) (by unfold Func.isWrapper; rw [if_neg (of_decide_eq_false (by kernel_rfl))]; exact ⟨rfl, rfl⟩)
    (fun os started H enc _ => reconDecides_lifted os started H enc)
#print axioms reconDecides_holds
end Go.Proofs.Ytpnkgldpmalklaa
