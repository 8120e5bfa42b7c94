/-
  swinglelaw17.DevPlays: any steps on a device: what each tells, and each sector then
  Whatever the input, the law's function returns true, and each argument reads behind the call as it read before.
-/
import Derived.Test.YtlogdionhgabdaaLift
import Derived.Test.YtlogdionhgabdaaDevPlaysWalk
set_option linter.unusedVariables false
namespace Go.Proofs.Ytlogdionhgabdaa
theorem devPlays_spec (H : Type) (ds : List (DataW H)) (h : ds.length = Try.f4.params.size) : Rows.devPlaysSpec.fn H ds = { results := [.lit (.bool true)], args := ds } := by
  have h' : ds.length = 2 := h
  match ds, h' with
  | [_, _], _ => rfl
set_option maxRecDepth 100000 in
theorem devPlays_lifted (os : Os) (started : os.Started) (H : Type) (enc : TypeId × Value → H) :
    ReturnsInHanded {} Try.checked os 4 .any (Rows.devPlaysSpec.pre6 enc Try.prog Try.f4 Rows.devPlaysRow.domain false) (Rows.devPlaysSpec.post enc Try.prog Try.f4 false true false false) :=
  lifted_of_walks 4 Try.f4 Rows.devPlaysSpec rfl devPlays_spec rfl (by kernel_rfl) Try.func4 (by kernel_rfl) devPlays_walk os started H enc
    (ChangeSpec.witness6 (enc := enc) (C := Try.checked) false ⟨#[], #[.int .i64 0, .slice none 0 0], []⟩ 8 (by kernel_rfl) (by kernel_rfl) (by kernel_rfl) (by kernel_rfl))
/-- ████ THE STATEMENT ████ -/
theorem devPlays_holds : Rows.DevPlaysSaid :=
  OpenClaim.holds_of_wide 4 Try.f4 rfl rfl rfl rfl rfl rfl rfl ⟨rfl, rfl, rfl, rfl, rfl⟩ rfl rfl rfl rfl rfl (by kernel_rfl) Try.func4 (by kernel_rfl)
    (of_decide_eq_true (by kernel_rfl)) (by unfold Func.isWrapper; rw [if_neg (of_decide_eq_false (by kernel_rfl))]; exact ⟨rfl, rfl⟩)
    (fun os started H enc _ => devPlays_lifted os started H enc)
#print axioms devPlays_holds
end Go.Proofs.Ytlogdionhgabdaa
