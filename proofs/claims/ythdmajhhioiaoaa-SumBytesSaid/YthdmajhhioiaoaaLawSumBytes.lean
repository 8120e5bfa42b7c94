/-
  swinglelaw02.SumBytes: the state behind any byte, and any texts, and the sum of any text.
  Whatever the input, the law's function returns true, and each argument reads behind the call as it read before.
-/
import Derived.Test.YthdmajhhioiaoaaLift
import Derived.Test.YthdmajhhioiaoaaSumBytesWalk
set_option linter.unusedVariables false
namespace Go.Proofs.Ythdmajhhioiaoaa
theorem sumBytes_spec (H : Type) (ds : List (DataW H)) (h : ds.length = Try.f4.params.size) : Rows.sumBytesSpec.fn H ds = { results := [.lit (.bool true)], args := ds } := by
  have h' : ds.length = 3 := h
  match ds, h' with
  | [_, _, _], _ => rfl
set_option maxRecDepth 100000 in
theorem sumBytes_lifted (os : Os) (started : os.Started) (H : Type) (enc : TypeId × Value → H) :
    ReturnsInHanded {} Try.checked os 4 .any (Rows.sumBytesSpec.pre6 enc Try.prog Try.f4 Rows.sumBytesRow.domain false) (Rows.sumBytesSpec.post enc Try.prog Try.f4 false true false false) :=
  lifted_of_walks 4 Try.f4 Rows.sumBytesSpec rfl sumBytes_spec rfl (by kernel_rfl) Try.func4 (by kernel_rfl) sumBytes_walk os started H enc
    (ChangeSpec.witness6 (enc := enc) (C := Try.checked) false ⟨#[], #[.int .u32 0, .int .u8 0, .agg #[.string ByteArray.empty, .string ByteArray.empty]], []⟩ 8 (by kernel_rfl) (by kernel_rfl) (by kernel_rfl) (by kernel_rfl))
/-- ████ THE STATEMENT ████ -/
theorem sumBytes_holds : Rows.SumBytesSaid :=
  OpenClaim.holds_of_wide 4 Try.f4 rfl rfl rfl rfl rfl rfl rfl ⟨rfl, rfl, rfl, rfl, rfl⟩ rfl rfl rfl rfl rfl (by kernel_rfl) Try.func4 (by kernel_rfl)
    (of_decide_eq_true (by kernel_rfl)) (by unfold Func.isWrapper; rw [if_neg (of_decide_eq_false (by kernel_rfl))]; exact ⟨rfl, rfl⟩)
    (fun os started H enc _ => sumBytes_lifted os started H enc)
#print axioms sumBytes_holds
end Go.Proofs.Ythdmajhhioiaoaa
