/-
  swinglelaw02.SumNoughts: the state behind any many noughts, and the sum of two texts from theirs.
  Whatever the input, the law's function returns true, and each argument reads behind the call as it read before.
-/
import Derived.Test.YthdmajhhioiaoaaLift
import Derived.Test.YthdmajhhioiaoaaSumNoughtsWalk
set_option linter.unusedVariables false
namespace Go.Proofs.Ythdmajhhioiaoaa
theorem sumNoughts_spec (H : Type) (ds : List (DataW H)) (h : ds.length = Try.f7.params.size) : Rows.sumNoughtsSpec.fn H ds = { results := [.lit (.bool true)], args := ds } := by
  have h' : ds.length = 3 := h
  match ds, h' with
  | [_, _, _], _ => rfl
set_option maxRecDepth 100000 in
theorem sumNoughts_lifted (os : Os) (started : os.Started) (H : Type) (enc : TypeId × Value → H) :
    ReturnsInHanded {} Try.checked os 7 .any (Rows.sumNoughtsSpec.pre6 enc Try.prog Try.f7 Rows.sumNoughtsRow.domain false) (Rows.sumNoughtsSpec.post enc Try.prog Try.f7 false true false false) :=
  lifted_of_walks 7 Try.f7 Rows.sumNoughtsSpec rfl sumNoughts_spec rfl (by kernel_rfl) Try.func7 (by kernel_rfl) sumNoughts_walk os started H enc
    (ChangeSpec.witness6 (enc := enc) (C := Try.checked) false ⟨#[], #[.int .u32 0, .int .i64 0, .agg #[.string ByteArray.empty, .string ByteArray.empty]], []⟩ 8 (by kernel_rfl) (by kernel_rfl) (by kernel_rfl) (by kernel_rfl))
/-- ████ THE STATEMENT ████ -/
theorem sumNoughts_holds : Rows.SumNoughtsSaid :=
  OpenClaim.holds_of_wide 7 Try.f7 rfl rfl rfl rfl rfl rfl rfl ⟨rfl, rfl, rfl, rfl, rfl⟩ rfl rfl rfl rfl rfl (by kernel_rfl) Try.func7 (by kernel_rfl)
    (of_decide_eq_true (by kernel_rfl)) (by unfold Func.isWrapper; rw [if_neg (of_decide_eq_false (by kernel_rfl))]; exact ⟨rfl, rfl⟩)
    (fun os started H enc _ => sumNoughts_lifted os started H enc)
#print axioms sumNoughts_holds
end Go.Proofs.Ythdmajhhioiaoaa
