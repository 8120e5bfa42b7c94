/-
  swinglelaw12.DosOrders: a later time is a greater number, and has more seconds.
  Whatever the input, the law's function returns true, and each argument reads behind the call as it read before.
-/
import Derived.Test.YthmlfeaoaanmoaaLift
import Derived.Test.YthmlfeaoaanmoaaDosOrdersWalk
set_option linter.unusedVariables false
namespace Go.Proofs.Ythmlfeaoaanmoaa
theorem dosOrders_spec (H : Type) (ds : List (DataW H)) (h : ds.length = Try.f6.params.size) : Rows.dosOrdersSpec.fn H ds = { results := [.lit (.bool true)], args := ds } := by
  have h' : ds.length = 2 := h
  match ds, h' with
  | [_, _], _ => rfl
set_option maxRecDepth 100000 in
theorem dosOrders_lifted (os : Os) (started : os.Started) (H : Type) (enc : TypeId × Value → H) :
    ReturnsInHanded {} Try.checked os 6 .any (Rows.dosOrdersSpec.pre6 enc Try.prog Try.f6 Rows.dosOrdersRow.domain false) (Rows.dosOrdersSpec.post enc Try.prog Try.f6 false true false false) :=
  lifted_of_walks 6 Try.f6 Rows.dosOrdersSpec rfl dosOrders_spec rfl (by kernel_rfl) Try.func6 (by kernel_rfl) dosOrders_walk os started H enc
    (ChangeSpec.witness6 (enc := enc) (C := Try.checked) false ⟨#[], #[.int .u32 0, .int .u32 0], []⟩ 8 (by kernel_rfl) (by kernel_rfl) (by kernel_rfl) (by kernel_rfl))
/-- ████ THE STATEMENT ████ -/
theorem dosOrders_holds : Rows.DosOrdersSaid :=
  OpenClaim.holds_of_wide 6 Try.f6 rfl rfl rfl rfl rfl rfl rfl ⟨rfl, rfl, rfl, rfl, rfl⟩ rfl rfl rfl rfl rfl (by kernel_rfl) Try.func6 (by kernel_rfl)
    (of_decide_eq_true (by kernel_rfl)) (by unfold Func.isWrapper; rw [if_neg (of_decide_eq_false (by kernel_rfl))]; exact ⟨rfl, rfl⟩)
    (fun os started H enc _ => dosOrders_lifted os started H enc)
#print axioms dosOrders_holds
end Go.Proofs.Ythmlfeaoaanmoaa
