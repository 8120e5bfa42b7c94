/-
  swinglelaw41.DiffLines: the line of any change, and the change of any line.
  Whatever the input, the law's function returns true, and each argument reads behind the call as it read before. The row lists two tables of the library, which the walk does not read; the witness lays them.
-/
import Derived.Test.YtihiakkeloejlaaGreatDoorJoin1
import Derived.Test.YtihiakkeloejlaaGreatDoorJoin34
set_option linter.unusedVariables false
namespace Go.Proofs.YtihiakkeloejlaaGreatDoor
open Go.ChangeShapes Go.WideShapes Go.ChangeAt Go.RowKit
theorem diffLines_spec (H : Type) (ds : List (DataW H)) (h : ds.length = Tryz.f5.params.size) : Rows.diffLinesSpec.fn H ds = { results := [.lit (.bool true)], args := ds } := by
  have h' : ds.length = 2 := h
  match ds, h' with
  | [_, _], _ => rfl
set_option maxRecDepth 100000 in
theorem diffLines_lifted (os : Os) (started : os.Started) (H : Type) (enc : TypeId × Value → H) :
    ReturnsInHanded {} Tryz.checked os 5 .any (fun w args => (Rows.diffLinesSpec.pre enc Tryz.prog Tryz.f5 Rows.diffLinesRow.domain false w args ∧ laidMetH Tryz.prog Rows.diffLinesRow.laid w) ∧ sizedMet enc Tryz.prog Tryz.f5 (OpenSpec.ofChange Rows.diffLinesSpec) false w args)
      (Rows.diffLinesSpec.post enc Tryz.prog Tryz.f5 false true false false) :=
  lifted_laid 5 Tryz.f5 Rows.diffLinesSpec rfl diffLines_spec rfl (by kernel_rfl) Tryz.func5 (by kernel_rfl) diffLines_walk os started H enc Rows.diffLinesRow.domain Rows.diffLinesRow.laid
    (ChangeSpec.witness_shaped (enc := enc) (C := Tryz.checked) (os := os) (X := fun w _ => laidMetH Tryz.prog Rows.diffLinesRow.laid w) false (World.laidAll Tryz.prog os Rows.diffLinesRow.laid) #[.agg #[.int .i64 0, .string ⟨#[]⟩, .string ⟨#[]⟩], .string ⟨#[]⟩] 8 (World.laidAll_os _ _ _)
      (World.shaped_of_ZipB (by kernel_rfl) (by kernel_rfl)) (by kernel_rfl) (by kernel_rfl) (by kernel_rfl)
      (by rw [MakeChecks.laidMetH_plain _ _ _ (by kernel_rfl)]; exact laidMet_laidAll _ (by kernel_rfl) (by kernel_rfl)))
theorem diffLines_said : Rows.DiffLinesSaid :=
  OpenClaim.holds_of_wide 5 Tryz.f5 rfl rfl rfl rfl rfl rfl rfl ⟨rfl, rfl, rfl, rfl, rfl⟩ rfl rfl rfl rfl rfl (by kernel_rfl) Tryz.func5 (by kernel_rfl)
    (of_decide_eq_true (by kernel_rfl)) (by unfold Func.isWrapper; rw [if_neg (of_decide_eq_false (by kernel_rfl))]; exact ⟨rfl, rfl⟩)
    (fun os started H enc _ => diffLines_lifted os started H enc)
theorem diffLines_plain (f : FuncId) (fn : Func) (hf : Tryz.pinned.checked.prog.funcNamed "swingle/swinglelaw41.DiffLines" = some f) (hfn : Tryz.pinned.checked.prog.funcs[f]? = some fn) :
    false = Tryz.pinned.checked.prog.looks [] ∧ ∀ (j : Nat) t, fn.params[j]? = some t → Tryz.pinned.checked.prog.wantsStandIn t = false := by
  obtain rfl : f = 5 := Option.some.inj ((show Tryz.prog.funcNamed "swingle/swinglelaw41.DiffLines" = some 5 by kernel_rfl).symm.trans hf) |>.symm
  obtain rfl : fn = Tryz.f5 := (Option.some.inj (Tryz.func5.symm.trans hfn)).symm
  refine ⟨by kernel_rfl, fun j t ht => ?_⟩
  have hall : (Tryz.f5.params.toList.all fun u => !Tryz.prog.wantsStandIn u) = true := by kernel_rfl
  exact (show Tryz.prog.wantsStandIn t = false by simpa using List.all_eq_true.1 hall t (by simpa using Array.mem_of_getElem? ht))
/-- ████ THE CARD ████ -/
theorem diffLines_holds : Rows.DiffLinesCardSaid :=
  Claim7.holds_tied_plain_at .later [] _ _ _ _ diffLines_said (fun _ h => by cases h) (by kernel_rfl) (fun _ h => by cases h) diffLines_row_tie rfl ⟨rfl, rfl⟩ (by kernel_rfl) rfl diffLines_plain (by kernel_rfl)
#print axioms diffLines_holds
end Go.Proofs.YtihiakkeloejlaaGreatDoor
