/-
  swinglelaw06.SymbolBacks: the sign of any distance, the distance of any sign, and how many bits any code has.
  Whatever the input, the law's function returns true, and each argument reads behind the call as it read before.
-/
import Derived.Test.YthdmajhhioiaoaaLift
import Derived.Test.YthdmajhhioiaoaaSymbolLaws
set_option linter.unusedVariables false
namespace Go.Proofs.Ythdmajhhioiaoaa
theorem symbolBacks_spec (H : Type) (ds : List (DataW H)) (h : ds.length = Try.f5.params.size) : Rows.symbolBacksSpec.fn H ds = { results := [.lit (.bool true)], args := ds } := by
  have h' : ds.length = 3 := h
  match ds, h' with
  | [_, _, _], _ => rfl
set_option maxRecDepth 100000 in
theorem symbolBacks_lifted (os : Os) (started : os.Started) (H : Type) (enc : TypeId × Value → H) :
    ReturnsInHanded {} Try.checked os 5 .any (Rows.symbolBacksSpec.pre6 enc Try.prog Try.f5 Rows.symbolBacksRow.domain false) (Rows.symbolBacksSpec.post enc Try.prog Try.f5 false true false false) :=
  lifted_of_walks 5 Try.f5 Rows.symbolBacksSpec rfl symbolBacks_spec rfl (by kernel_rfl) Try.func5 (by kernel_rfl) symbolBacks_walk os started H enc
    (ChangeSpec.witness6 (enc := enc) (C := Try.checked) false ⟨#[], #[.int .i64 0, .int .i64 0, .int .i64 0], []⟩ 8 (by kernel_rfl) (by kernel_rfl) (by kernel_rfl) (by kernel_rfl))
/-- ████ THE STATEMENT ████ -/
theorem symbolBacks_holds : Rows.SymbolBacksSaid :=
  OpenClaim.holds_of_wide 5 Try.f5 rfl rfl rfl rfl rfl rfl rfl ⟨rfl, rfl, rfl, rfl, rfl⟩ rfl rfl rfl rfl rfl (by kernel_rfl) Try.func5 (by kernel_rfl)
    (of_decide_eq_true (by kernel_rfl)) (by unfold Func.isWrapper; rw [if_neg (of_decide_eq_false (by kernel_rfl))]; exact ⟨rfl, rfl⟩)
    (fun os started H enc _ => symbolBacks_lifted os started H enc)
#print axioms symbolBacks_holds
end Go.Proofs.Ythdmajhhioiaoaa
