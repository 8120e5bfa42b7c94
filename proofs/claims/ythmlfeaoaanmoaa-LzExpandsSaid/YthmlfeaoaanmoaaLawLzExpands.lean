/-
  swinglelaw07.LzExpands: the bytes of any tokens, or that they may not be
  Whatever the input, the law's function returns true, and each argument reads behind the call as it read before.
-/
import Derived.Test.YthmlfeaoaanmoaaLift
import Derived.Test.YthmlfeaoaanmoaaLzExpandsWalk
set_option linter.unusedVariables false
namespace Go.Proofs.Ythmlfeaoaanmoaa
theorem lzExpands_spec (H : Type) (ds : List (DataW H)) (h : ds.length = Try.f13.params.size) : Rows.lzExpandsSpec.fn H ds = { results := [.lit (.bool true)], args := ds } := by
  have h' : ds.length = 1 := h
  match ds, h' with
  | [_], _ => rfl
set_option maxRecDepth 100000 in
theorem lzExpands_lifted (os : Os) (started : os.Started) (H : Type) (enc : TypeId × Value → H) :
    ReturnsInHanded {} Try.checked os 13 .any (Rows.lzExpandsSpec.pre6 enc Try.prog Try.f13 Rows.lzExpandsRow.domain false) (Rows.lzExpandsSpec.post enc Try.prog Try.f13 false true false false) :=
  lifted_of_walks 13 Try.f13 Rows.lzExpandsSpec rfl lzExpands_spec rfl (by kernel_rfl) Try.func13 (by kernel_rfl) lzExpands_walk os started H enc
    (ChangeSpec.witness6 (enc := enc) (C := Try.checked) false ⟨#[], #[.slice none 0 0], []⟩ 8 (by kernel_rfl) (by kernel_rfl) (by kernel_rfl) (by kernel_rfl))
/-- ████ THE STATEMENT ████ -/
theorem lzExpands_holds : Rows.LzExpandsSaid :=
  OpenClaim.holds_of_wide 13 Try.f13 rfl rfl rfl rfl rfl rfl rfl ⟨rfl, rfl, rfl, rfl, rfl⟩ rfl rfl rfl rfl rfl (by kernel_rfl) Try.func13 (by kernel_rfl)
    (of_decide_eq_true (by kernel_rfl)) (by unfold Func.isWrapper; rw [if_neg (of_decide_eq_false (by kernel_rfl))]; exact ⟨rfl, rfl⟩)
    (fun os started H enc _ => lzExpands_lifted os started H enc)
#print axioms lzExpands_holds
end Go.Proofs.Ythmlfeaoaanmoaa
