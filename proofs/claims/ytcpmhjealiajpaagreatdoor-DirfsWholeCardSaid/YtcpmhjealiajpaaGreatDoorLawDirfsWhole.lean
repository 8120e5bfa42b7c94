/-
  swinglelaw18.DirfsWhole: a step that is refused, or that the power fails, changes nothing; whatever is done, it is a tree, within its room; a tree that was told goes its own way
  Whatever the input, the law's function returns true, and each argument reads behind the call as it read before. The row lists two tables of the library, which the walk does not read; the witness lays them.
-/
import Derived.Test.YtcpmhjealiajpaaGreatDoorJoin1
import Derived.Test.YtcpmhjealiajpaaGreatDoorJoin18
set_option linter.unusedVariables false
namespace Go.Proofs.YtcpmhjealiajpaaGreatDoor
open Go.ChangeShapes Go.WideShapes Go.ChangeAt Go.RowKit
theorem dirfsWhole_spec (H : Type) (ds : List (DataW H)) (h : ds.length = Tryz.f6.params.size) : Rows.dirfsWholeSpec.fn H ds = { results := [.lit (.bool true)], args := ds } := by
  have h' : ds.length = 3 := h
  match ds, h' with
  | [_, _, _], _ => rfl
set_option maxRecDepth 100000 in
theorem dirfsWhole_lifted (os : Os) (started : os.Started) (H : Type) (enc : TypeId × Value → H) :
    ReturnsInHanded {} Tryz.checked os 6 .any (fun w args => (Rows.dirfsWholeSpec.pre enc Tryz.prog Tryz.f6 Rows.dirfsWholeRow.domain false w args ∧ laidMetH Tryz.prog Rows.dirfsWholeRow.laid w) ∧ sizedMet enc Tryz.prog Tryz.f6 (OpenSpec.ofChange Rows.dirfsWholeSpec) false w args)
      (Rows.dirfsWholeSpec.post enc Tryz.prog Tryz.f6 false true false false) :=
  lifted_laid 6 Tryz.f6 Rows.dirfsWholeSpec rfl dirfsWhole_spec rfl (by kernel_rfl) Tryz.func6 (by kernel_rfl) dirfsWhole_walk os started H enc Rows.dirfsWholeRow.domain Rows.dirfsWholeRow.laid
    (ChangeSpec.witness_shaped (enc := enc) (C := Tryz.checked) (os := os) (X := fun w _ => laidMetH Tryz.prog Rows.dirfsWholeRow.laid w) false (World.laidAll Tryz.prog os Rows.dirfsWholeRow.laid) #[.int .i64 0, .slice none 0 0, .int .u64 0] 8 (World.laidAll_os _ _ _)
      (World.shaped_of_ZipB (by kernel_rfl) (by kernel_rfl)) (by kernel_rfl) (by kernel_rfl) (by kernel_rfl)
      (by rw [MakeChecks.laidMetH_plain _ _ _ (by kernel_rfl)]; exact laidMet_laidAll _ (by kernel_rfl) (by kernel_rfl)))
theorem dirfsWhole_said : Rows.DirfsWholeSaid :=
  OpenClaim.holds_of_wide 6 Tryz.f6 rfl rfl rfl rfl rfl rfl rfl ⟨rfl, rfl, rfl, rfl, rfl⟩ rfl rfl rfl rfl rfl (by kernel_rfl) Tryz.func6 (by kernel_rfl)
    (of_decide_eq_true (by kernel_rfl)) (by unfold Func.isWrapper; rw [if_neg (of_decide_eq_false (by kernel_rfl))]; exact ⟨rfl, rfl⟩)
    (fun os started H enc _ => dirfsWhole_lifted os started H enc)
theorem dirfsWhole_plain (f : FuncId) (fn : Func) (hf : Tryz.pinned.checked.prog.funcNamed "swingle/swinglelaw18.DirfsWhole" = some f) (hfn : Tryz.pinned.checked.prog.funcs[f]? = some fn) :
    false = Tryz.pinned.checked.prog.looks [] ∧ ∀ (j : Nat) t, fn.params[j]? = some t → Tryz.pinned.checked.prog.wantsStandIn t = false := by
  obtain rfl : f = 6 := Option.some.inj ((show Tryz.prog.funcNamed "swingle/swinglelaw18.DirfsWhole" = some 6 by kernel_rfl).symm.trans hf) |>.symm
  obtain rfl : fn = Tryz.f6 := (Option.some.inj (Tryz.func6.symm.trans hfn)).symm
  refine ⟨by kernel_rfl, fun j t ht => ?_⟩
  have hall : (Tryz.f6.params.toList.all fun u => !Tryz.prog.wantsStandIn u) = true := by kernel_rfl
  exact (show Tryz.prog.wantsStandIn t = false by simpa using List.all_eq_true.1 hall t (by simpa using Array.mem_of_getElem? ht))
/-- ████ THE CARD ████ -/
theorem dirfsWhole_holds : Rows.DirfsWholeCardSaid :=
  Claim7.holds_tied_plain_at .later [] _ _ _ _ dirfsWhole_said (fun _ h => by cases h) (by kernel_rfl) (fun _ h => by cases h) dirfsWhole_row_tie rfl ⟨rfl, rfl⟩ (by kernel_rfl) rfl dirfsWhole_plain (by kernel_rfl)
#print axioms dirfsWhole_holds
end Go.Proofs.YtcpmhjealiajpaaGreatDoor
