/-
  swinglelaw01.FieldBack: what was written is read as it was.
  Whatever the input of bulk at most 1048576, the law's function returns true, and each argument reads behind the call as it read before.
-/
import Derived.Test.YthdmajhhioiaoaaLiftU
import Derived.Test.YthdmajhhioiaoaaFieldBackWalk
set_option linter.unusedVariables false
namespace Go.Proofs.Ythdmajhhioiaoaa
theorem fieldBack_spec (H : Type) (ds : List (DataW H)) (h : ds.length = Try.f11.params.size) : Rows.fieldBackSpec.fn H ds = { results := [.lit (.bool true)], args := ds } := by
  have h' : ds.length = 3 := h
  match ds, h' with
  | [_, _, _], _ => rfl
set_option maxRecDepth 100000 in
theorem fieldBack_lifted (os : Os) (started : os.Started) (H : Type) (enc : TypeId × Value → H) (F : Stop.Interp) :
    ReturnsInHanded {} Try.checked os 11 .any ((Rows.OpenSpec.upto Rows.fieldBackSpec).pre6 enc Try.prog Try.f11 Rows.fieldBackUptoRow.domain false) (((Rows.OpenSpec.upto Rows.fieldBackSpec).at F).post enc Try.prog Try.f11 false true false false) :=
  lifted_of_walksU 11 Try.f11 Rows.fieldBackSpec rfl fieldBack_spec rfl (by kernel_rfl) Try.func11 (by kernel_rfl) fieldBack_walk os started H enc F
    (OpenSpec.witness (enc := enc) (C := Try.checked) (s := Rows.OpenSpec.upto Rows.fieldBackSpec) (k := Rows.uptoSmall) rfl false ⟨#[], #[.slice none 0 0, .slice none 0 0, .slice none 0 0], []⟩ 8 (by kernel_rfl) (by kernel_rfl) (by kernel_rfl)
      (x := ([.nil, .nil, .nil], [], [])) (by kernel_rfl) rfl (by kernel_rfl))
/-- ████ THE STATEMENT ████ -/
theorem fieldBack_holds : Rows.FieldBackUptoSaid :=
  OpenClaim.holds_of_cond 11 Try.f11 rfl rfl rfl rfl rfl rfl rfl ⟨rfl, rfl, rfl, rfl, rfl⟩ rfl rfl rfl rfl rfl (by kernel_rfl) Try.func11 (by kernel_rfl)
    (of_decide_eq_true (by kernel_rfl)) (by unfold Func.isWrapper; rw [if_neg (of_decide_eq_false (by kernel_rfl))]; exact ⟨rfl, rfl⟩)
    (fun os started H enc _ F => fieldBack_lifted os started H enc F)
#print axioms fieldBack_holds
end Go.Proofs.Ythdmajhhioiaoaa
