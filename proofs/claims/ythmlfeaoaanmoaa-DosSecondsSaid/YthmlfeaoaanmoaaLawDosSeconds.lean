/-
  swinglelaw12.DosSeconds: how many seconds any time lies behind 1980.
  Whatever the input, the law's function returns true, and each argument reads behind the call as it read before.
-/
import Derived.Test.YthmlfeaoaanmoaaLift
import Derived.Test.YthmlfeaoaanmoaaDosSecondsWalk
set_option linter.unusedVariables false
namespace Go.Proofs.Ythmlfeaoaanmoaa
theorem dosSeconds_spec (H : Type) (ds : List (DataW H)) (h : ds.length = Try.f5.params.size) : Rows.dosSecondsSpec.fn H ds = { results := [.lit (.bool true)], args := ds } := by
  have h' : ds.length = 2 := h
  match ds, h' with
  | [_, _], _ => rfl
set_option maxRecDepth 100000 in
theorem dosSeconds_lifted (os : Os) (started : os.Started) (H : Type) (enc : TypeId × Value → H) :
    ReturnsInHanded {} Try.checked os 5 .any (Rows.dosSecondsSpec.pre6 enc Try.prog Try.f5 Rows.dosSecondsRow.domain false) (Rows.dosSecondsSpec.post enc Try.prog Try.f5 false true false false) :=
  lifted_of_walks 5 Try.f5 Rows.dosSecondsSpec rfl dosSeconds_spec rfl (by kernel_rfl) Try.func5 (by kernel_rfl) dosSeconds_walk os started H enc
    (ChangeSpec.witness6 (enc := enc) (C := Try.checked) false ⟨#[], #[.int .u32 0, .int .i64 0], []⟩ 8 (by kernel_rfl) (by kernel_rfl) (by kernel_rfl) (by kernel_rfl))
/-- ████ THE STATEMENT ████ -/
theorem dosSeconds_holds : Rows.DosSecondsSaid :=
  OpenClaim.holds_of_wide 5 Try.f5 rfl rfl rfl rfl rfl rfl rfl ⟨rfl, rfl, rfl, rfl, rfl⟩ rfl rfl rfl rfl rfl (by kernel_rfl) Try.func5 (by kernel_rfl)
    (of_decide_eq_true (by kernel_rfl)) (by unfold Func.isWrapper; rw [if_neg (of_decide_eq_false (by kernel_rfl))]; exact ⟨rfl, rfl⟩)
    (fun os started H enc _ => dosSeconds_lifted os started H enc)
#print axioms dosSeconds_holds
end Go.Proofs.Ythmlfeaoaanmoaa
