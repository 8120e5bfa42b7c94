/-
  swinglelaw06.SymbolBack: the length and the distance of its sign is itself; that of the next one has the next number, or the next code.
  Whatever the input, the law's function returns true, and each argument reads behind the call as it read before.
-/
import Derived.Test.YthdmajhhioiaoaaLift
import Derived.Test.YthdmajhhioiaoaaSymbolBackWalk
set_option linter.unusedVariables false
namespace Go.Proofs.Ythdmajhhioiaoaa
theorem symbolBack_spec (H : Type) (ds : List (DataW H)) (h : ds.length = Try.f10.params.size) : Rows.symbolBackSpec.fn H ds = { results := [.lit (.bool true)], args := ds } := by
  have h' : ds.length = 2 := h
  match ds, h' with
  | [_, _], _ => rfl
set_option maxRecDepth 100000 in
theorem symbolBack_lifted (os : Os) (started : os.Started) (H : Type) (enc : TypeId × Value → H) :
    ReturnsInHanded {} Try.checked os 10 .any (Rows.symbolBackSpec.pre6 enc Try.prog Try.f10 Rows.symbolBackRow.domain false) (Rows.symbolBackSpec.post enc Try.prog Try.f10 false true false false) :=
  lifted_of_walks 10 Try.f10 Rows.symbolBackSpec rfl symbolBack_spec rfl (by kernel_rfl) Try.func10 (by kernel_rfl) symbolBack_walk os started H enc
    (ChangeSpec.witness6 (enc := enc) (C := Try.checked) false ⟨#[], #[.int .u64 0, .int .u64 0], []⟩ 8 (by kernel_rfl) (by kernel_rfl) (by kernel_rfl) (by kernel_rfl))
/-- ████ THE STATEMENT ████ -/
theorem symbolBack_holds : Rows.SymbolBackSaid :=
  OpenClaim.holds_of_wide 10 Try.f10 rfl rfl rfl rfl rfl rfl rfl ⟨rfl, rfl, rfl, rfl, rfl⟩ rfl rfl rfl rfl rfl (by kernel_rfl) Try.func10 (by kernel_rfl)
    (of_decide_eq_true (by kernel_rfl)) (by unfold Func.isWrapper; rw [if_neg (of_decide_eq_false (by kernel_rfl))]; exact ⟨rfl, rfl⟩)
    (fun os started H enc _ => symbolBack_lifted os started H enc)
#print axioms symbolBack_holds
end Go.Proofs.Ythdmajhhioiaoaa
