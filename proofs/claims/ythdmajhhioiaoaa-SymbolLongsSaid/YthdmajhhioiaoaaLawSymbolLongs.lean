/-
  swinglelaw06.SymbolLongs: the sign of any length, the length of any sign, and how many bits any code has.
  Whatever the input, the law's function returns true, and each argument reads behind the call as it read before.
-/
import Derived.Test.YthdmajhhioiaoaaLift
import Derived.Test.YthdmajhhioiaoaaSymbolLaws
set_option linter.unusedVariables false
namespace Go.Proofs.Ythdmajhhioiaoaa
theorem symbolLongs_spec (H : Type) (ds : List (DataW H)) (h : ds.length = Try.f9.params.size) : Rows.symbolLongsSpec.fn H ds = { results := [.lit (.bool true)], args := ds } := by
  have h' : ds.length = 3 := h
  match ds, h' with
  | [_, _, _], _ => rfl
set_option maxRecDepth 100000 in
theorem symbolLongs_lifted (os : Os) (started : os.Started) (H : Type) (enc : TypeId × Value → H) :
    ReturnsInHanded {} Try.checked os 9 .any (Rows.symbolLongsSpec.pre6 enc Try.prog Try.f9 Rows.symbolLongsRow.domain false) (Rows.symbolLongsSpec.post enc Try.prog Try.f9 false true false false) :=
  lifted_of_walks 9 Try.f9 Rows.symbolLongsSpec rfl symbolLongs_spec rfl (by kernel_rfl) Try.func9 (by kernel_rfl) symbolLongs_walk os started H enc
    (ChangeSpec.witness6 (enc := enc) (C := Try.checked) false ⟨#[], #[.int .i64 0, .int .i64 0, .int .i64 0], []⟩ 8 (by kernel_rfl) (by kernel_rfl) (by kernel_rfl) (by kernel_rfl))
/-- ████ THE STATEMENT ████ -/
theorem symbolLongs_holds : Rows.SymbolLongsSaid :=
  OpenClaim.holds_of_wide 9 Try.f9 rfl rfl rfl rfl rfl rfl rfl ⟨rfl, rfl, rfl, rfl, rfl⟩ rfl rfl rfl rfl rfl (by kernel_rfl) Try.func9 (by kernel_rfl)
    (of_decide_eq_true (by kernel_rfl)) (by unfold Func.isWrapper; rw [if_neg (of_decide_eq_false (by kernel_rfl))]; exact ⟨rfl, rfl⟩)
    (fun os started H enc _ => symbolLongs_lifted os started H enc)
#print axioms symbolLongs_holds
end Go.Proofs.Ythdmajhhioiaoaa
