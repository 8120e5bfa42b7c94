/-
  swinglelaw07.LzBack: the tokens of any text, at any level, make that text again
  Whatever the input, the law's function returns true, and each argument reads behind the call as it read before.
-/
import Derived.Test.YthmlfeaoaanmoaaLift
import Derived.Test.YthmlfeaoaanmoaaLzBackWalk
set_option linter.unusedVariables false
namespace Go.Proofs.Ythmlfeaoaanmoaa
theorem lzBack_spec (H : Type) (ds : List (DataW H)) (h : ds.length = Try.f11.params.size) : Rows.lzBackSpec.fn H ds = { results := [.lit (.bool true)], args := ds } := by
  have h' : ds.length = 3 := h
  match ds, h' with
  | [_, _, _], _ => rfl
set_option maxRecDepth 100000 in
theorem lzBack_lifted (os : Os) (started : os.Started) (H : Type) (enc : TypeId × Value → H) :
    ReturnsInHanded {} Try.checked os 11 .any (Rows.lzBackSpec.pre6 enc Try.prog Try.f11 Rows.lzBackRow.domain false) (Rows.lzBackSpec.post enc Try.prog Try.f11 false true false false) :=
  lifted_of_walks 11 Try.f11 Rows.lzBackSpec rfl lzBack_spec rfl (by kernel_rfl) Try.func11 (by kernel_rfl) lzBack_walk os started H enc
    (ChangeSpec.witness6 (enc := enc) (C := Try.checked) false ⟨#[], #[.string ByteArray.empty, .int .i64 0, .int .u64 0], []⟩ 8 (by kernel_rfl) (by kernel_rfl) (by kernel_rfl) (by kernel_rfl))
/-- ████ THE STATEMENT ████ -/
theorem lzBack_holds : Rows.LzBackSaid :=
  OpenClaim.holds_of_wide 11 Try.f11 rfl rfl rfl rfl rfl rfl rfl ⟨rfl, rfl, rfl, rfl, rfl⟩ rfl rfl rfl rfl rfl (by kernel_rfl) Try.func11 (by kernel_rfl)
    (of_decide_eq_true (by kernel_rfl)) (by unfold Func.isWrapper; rw [if_neg (of_decide_eq_false (by kernel_rfl))]; exact ⟨rfl, rfl⟩)
    (fun os started H enc _ => lzBack_lifted os started H enc)
#print axioms lzBack_holds
end Go.Proofs.Ythmlfeaoaanmoaa
