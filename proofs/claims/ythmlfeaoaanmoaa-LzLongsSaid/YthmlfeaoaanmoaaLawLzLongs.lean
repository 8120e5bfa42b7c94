/-
  swinglelaw07.LzLongs: how far any text goes on as it did so far back, and its bytes as tokens
  Whatever the input, the law's function returns true, and each argument reads behind the call as it read before.
-/
import Derived.Test.YthmlfeaoaanmoaaLift
import Derived.Test.YthmlfeaoaanmoaaLzLives
set_option linter.unusedVariables false
namespace Go.Proofs.Ythmlfeaoaanmoaa
theorem lzLongs_spec (H : Type) (ds : List (DataW H)) (h : ds.length = Try.f10.params.size) : Rows.lzLongsSpec.fn H ds = { results := [.lit (.bool true)], args := ds } := by
  have h' : ds.length = 3 := h
  match ds, h' with
  | [_, _, _], _ => rfl
set_option maxRecDepth 100000 in
theorem lzLongs_lifted (os : Os) (started : os.Started) (H : Type) (enc : TypeId × Value → H) :
    ReturnsInHanded {} Try.checked os 10 .any (Rows.lzLongsSpec.pre6 enc Try.prog Try.f10 Rows.lzLongsRow.domain false) (Rows.lzLongsSpec.post enc Try.prog Try.f10 false true false false) :=
  lifted_of_walks 10 Try.f10 Rows.lzLongsSpec rfl lzLongs_spec rfl (by kernel_rfl) Try.func10 (by kernel_rfl) lzLongs_walk os started H enc
    (ChangeSpec.witness6 (enc := enc) (C := Try.checked) false ⟨#[], #[.string ByteArray.empty, .int .i64 0, .int .i64 0], []⟩ 8 (by kernel_rfl) (by kernel_rfl) (by kernel_rfl) (by kernel_rfl))
/-- ████ THE STATEMENT ████ -/
theorem lzLongs_holds : Rows.LzLongsSaid :=
  OpenClaim.holds_of_wide 10 Try.f10 rfl rfl rfl rfl rfl rfl rfl ⟨rfl, rfl, rfl, rfl, rfl⟩ rfl rfl rfl rfl rfl (by kernel_rfl) Try.func10 (by kernel_rfl)
    (of_decide_eq_true (by kernel_rfl)) (by unfold Func.isWrapper; rw [if_neg (of_decide_eq_false (by kernel_rfl))]; exact ⟨rfl, rfl⟩)
    (fun os started H enc _ => lzLongs_lifted os started H enc)
#print axioms lzLongs_holds
end Go.Proofs.Ythmlfeaoaanmoaa
