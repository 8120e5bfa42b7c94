/-
  swinglelaw17.DevSure: what was flushed is there whatever goes
  Whatever the input, the law's function returns true, and each argument reads behind the call as it read before.
-/
import Derived.Test.YtlogdionhgabdaaLift
import Derived.Test.YtlogdionhgabdaaDevSureWalk
set_option linter.unusedVariables false
namespace Go.Proofs.Ytlogdionhgabdaa
theorem devSure_spec (H : Type) (ds : List (DataW H)) (h : ds.length = Try.f5.params.size) : Rows.devSureSpec.fn H ds = { results := [.lit (.bool true)], args := ds } := by
  have h' : ds.length = 3 := h
  match ds, h' with
  | [_, _, _], _ => rfl
set_option maxRecDepth 100000 in
theorem devSure_lifted (os : Os) (started : os.Started) (H : Type) (enc : TypeId × Value → H) :
    ReturnsInHanded {} Try.checked os 5 .any (Rows.devSureSpec.pre6 enc Try.prog Try.f5 Rows.devSureRow.domain false) (Rows.devSureSpec.post enc Try.prog Try.f5 false true false false) :=
  lifted_of_walks 5 Try.f5 Rows.devSureSpec rfl devSure_spec rfl (by kernel_rfl) Try.func5 (by kernel_rfl) devSure_walk os started H enc
    (ChangeSpec.witness6 (enc := enc) (C := Try.checked) false ⟨#[], #[.slice none 0 0, .slice none 0 0, .slice none 0 0], []⟩ 8 (by kernel_rfl) (by kernel_rfl) (by kernel_rfl) (by kernel_rfl))
/-- ████ THE STATEMENT ████ -/
theorem devSure_holds : Rows.DevSureSaid :=
  OpenClaim.holds_of_wide 5 Try.f5 rfl rfl rfl rfl rfl rfl rfl ⟨rfl, rfl, rfl, rfl, rfl⟩ rfl rfl rfl rfl rfl (by kernel_rfl) Try.func5 (by kernel_rfl)
    (of_decide_eq_true (by kernel_rfl)) (by unfold Func.isWrapper; rw [if_neg (of_decide_eq_false (by kernel_rfl))]; exact ⟨rfl, rfl⟩)
    (fun os started H enc _ => devSure_lifted os started H enc)
#print axioms devSure_holds
end Go.Proofs.Ytlogdionhgabdaa
