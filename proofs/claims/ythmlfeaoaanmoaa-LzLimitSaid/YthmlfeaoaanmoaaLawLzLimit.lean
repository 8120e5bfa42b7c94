/-
  swinglelaw07.LzLimit: a text of more than 65000 bytes has no tokens; one that has as many has some
  Whatever the input, the law's function returns true, and each argument reads behind the call as it read before.
-/
import Derived.Test.YthmlfeaoaanmoaaLift
import Derived.Test.YthmlfeaoaanmoaaLzLimitWalk
set_option linter.unusedVariables false
namespace Go.Proofs.Ythmlfeaoaanmoaa
theorem lzLimit_spec (H : Type) (ds : List (DataW H)) (h : ds.length = Try.f12.params.size) : Rows.lzLimitSpec.fn H ds = { results := [.lit (.bool true)], args := ds } := by
  have h' : ds.length = 2 := h
  match ds, h' with
  | [_, _], _ => rfl
set_option maxRecDepth 100000 in
theorem lzLimit_lifted (os : Os) (started : os.Started) (H : Type) (enc : TypeId × Value → H) :
    ReturnsInHanded {} Try.checked os 12 .any (Rows.lzLimitSpec.pre6 enc Try.prog Try.f12 Rows.lzLimitRow.domain false) (Rows.lzLimitSpec.post enc Try.prog Try.f12 false true false false) :=
  lifted_of_walks 12 Try.f12 Rows.lzLimitSpec rfl lzLimit_spec rfl (by kernel_rfl) Try.func12 (by kernel_rfl) lzLimit_walk os started H enc
    (ChangeSpec.witness6 (enc := enc) (C := Try.checked) false ⟨#[], #[.int .u8 0, .int .u64 0], []⟩ 8 (by kernel_rfl) (by kernel_rfl) (by kernel_rfl) (by kernel_rfl))
/-- ████ THE STATEMENT ████ -/
theorem lzLimit_holds : Rows.LzLimitSaid :=
  OpenClaim.holds_of_wide 12 Try.f12 rfl rfl rfl rfl rfl rfl rfl ⟨rfl, rfl, rfl, rfl, rfl⟩ rfl rfl rfl rfl rfl (by kernel_rfl) Try.func12 (by kernel_rfl)
    (of_decide_eq_true (by kernel_rfl)) (by unfold Func.isWrapper; rw [if_neg (of_decide_eq_false (by kernel_rfl))]; exact ⟨rfl, rfl⟩)
    (fun os started H enc _ => lzLimit_lifted os started H enc)
#print axioms lzLimit_holds
end Go.Proofs.Ythmlfeaoaanmoaa
