/-
  swinglelaw17.DevFuse: a device goes after as many writes and flushes as the fuse says
  Whatever the input, the law's function returns true, and each argument reads behind the call as it read before.
-/
import Derived.Test.YtlogdionhgabdaaLift
import Derived.Test.YtlogdionhgabdaaDevFuseWalk
set_option linter.unusedVariables false
namespace Go.Proofs.Ytlogdionhgabdaa
theorem devFuse_spec (H : Type) (ds : List (DataW H)) (h : ds.length = Try.f3.params.size) : Rows.devFuseSpec.fn H ds = { results := [.lit (.bool true)], args := ds } := by
  have h' : ds.length = 3 := h
  match ds, h' with
  | [_, _, _], _ => rfl
set_option maxRecDepth 100000 in
theorem devFuse_lifted (os : Os) (started : os.Started) (H : Type) (enc : TypeId × Value → H) :
    ReturnsInHanded {} Try.checked os 3 .any (Rows.devFuseSpec.pre6 enc Try.prog Try.f3 Rows.devFuseRow.domain false) (Rows.devFuseSpec.post enc Try.prog Try.f3 false true false false) :=
  lifted_of_walks 3 Try.f3 Rows.devFuseSpec rfl devFuse_spec rfl (by kernel_rfl) Try.func3 (by kernel_rfl) devFuse_walk os started H enc
    (ChangeSpec.witness6 (enc := enc) (C := Try.checked) false ⟨#[], #[.slice none 0 0, .int .u64 0, .int .u64 0], []⟩ 8 (by kernel_rfl) (by kernel_rfl) (by kernel_rfl) (by kernel_rfl))
/-- ████ THE STATEMENT ████ -/
theorem devFuse_holds : Rows.DevFuseSaid :=
  OpenClaim.holds_of_wide 3 Try.f3 rfl rfl rfl rfl rfl rfl rfl ⟨rfl, rfl, rfl, rfl, rfl⟩ rfl rfl rfl rfl rfl (by kernel_rfl) Try.func3 (by kernel_rfl)
    (of_decide_eq_true (by kernel_rfl)) (by unfold Func.isWrapper; rw [if_neg (of_decide_eq_false (by kernel_rfl))]; exact ⟨rfl, rfl⟩)
    (fun os started H enc _ => devFuse_lifted os started H enc)
#print axioms devFuse_holds
end Go.Proofs.Ytlogdionhgabdaa
