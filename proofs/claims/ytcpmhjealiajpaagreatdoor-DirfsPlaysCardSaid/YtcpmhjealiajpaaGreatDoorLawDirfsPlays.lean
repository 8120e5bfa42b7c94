/-
  swinglelaw18.DirfsPlays: any steps on a live directory: what each tells, and its tree then
  Whatever the input, the law's function returns true, and each argument reads behind the call as it read before. The row lists two tables of the library, which the walk does not read; the witness lays them.
-/
import Derived.Test.YtcpmhjealiajpaaGreatDoorJoin1
import Derived.Test.YtcpmhjealiajpaaGreatDoorJoin21
set_option linter.unusedVariables false
namespace Go.Proofs.YtcpmhjealiajpaaGreatDoor
open Go.ChangeShapes Go.WideShapes Go.ChangeAt Go.RowKit
theorem dirfsPlays_spec (H : Type) (ds : List (DataW H)) (h : ds.length = Tryz.f5.params.size) : Rows.dirfsPlaysSpec.fn H ds = { results := [.lit (.bool true)], args := ds } := by
  have h' : ds.length = 2 := h
  match ds, h' with
  | [_, _], _ => rfl
set_option maxRecDepth 100000 in
theorem dirfsPlays_lifted (os : Os) (started : os.Started) (H : Type) (enc : TypeId × Value → H) :
    ReturnsInHanded {} Tryz.checked os 5 .any (fun w args => (Rows.dirfsPlaysSpec.pre enc Tryz.prog Tryz.f5 Rows.dirfsPlaysRow.domain false w args ∧ laidMetH Tryz.prog Rows.dirfsPlaysRow.laid w) ∧ sizedMet enc Tryz.prog Tryz.f5 (OpenSpec.ofChange Rows.dirfsPlaysSpec) false w args)
      (Rows.dirfsPlaysSpec.post enc Tryz.prog Tryz.f5 false true false false) :=
  lifted_laid 5 Tryz.f5 Rows.dirfsPlaysSpec rfl dirfsPlays_spec rfl (by kernel_rfl) Tryz.func5 (by kernel_rfl) dirfsPlays_walk os started H enc Rows.dirfsPlaysRow.domain Rows.dirfsPlaysRow.laid
    (ChangeSpec.witness_shaped (enc := enc) (C := Tryz.checked) (os := os) (X := fun w _ => laidMetH Tryz.prog Rows.dirfsPlaysRow.laid w) false (World.laidAll Tryz.prog os Rows.dirfsPlaysRow.laid) #[.int .i64 0, .slice none 0 0] 8 (World.laidAll_os _ _ _)
      (World.shaped_of_ZipB (by kernel_rfl) (by kernel_rfl)) (by kernel_rfl) (by kernel_rfl) (by kernel_rfl)
      (by rw [MakeChecks.laidMetH_plain _ _ _ (by kernel_rfl)]; exact laidMet_laidAll _ (by kernel_rfl) (by kernel_rfl)))
theorem dirfsPlays_said : Rows.DirfsPlaysSaid :=
  OpenClaim.holds_of_wide 5 Tryz.f5 rfl rfl rfl rfl rfl rfl rfl ⟨rfl, rfl, rfl, rfl, rfl⟩ rfl rfl rfl rfl rfl (by kernel_rfl) Tryz.func5 (by kernel_rfl)
    (of_decide_eq_true (by kernel_rfl)) (by unfold Func.isWrapper; rw [if_neg (of_decide_eq_false (by kernel_rfl))]; exact ⟨rfl, rfl⟩)
    (fun os started H enc _ => dirfsPlays_lifted os started H enc)
theorem dirfsPlays_plain (f : FuncId) (fn : Func) (hf : Tryz.pinned.checked.prog.funcNamed "swingle/swinglelaw18.DirfsPlays" = some f) (hfn : Tryz.pinned.checked.prog.funcs[f]? = some fn) :
    false = Tryz.pinned.checked.prog.looks [] ∧ ∀ (j : Nat) t, fn.params[j]? = some t → Tryz.pinned.checked.prog.wantsStandIn t = false := by
  obtain rfl : f = 5 := Option.some.inj ((show Tryz.prog.funcNamed "swingle/swinglelaw18.DirfsPlays" = some 5 by kernel_rfl).symm.trans hf) |>.symm
  obtain rfl : fn = Tryz.f5 := (Option.some.inj (Tryz.func5.symm.trans hfn)).symm
  refine ⟨by kernel_rfl, fun j t ht => ?_⟩
  have hall : (Tryz.f5.params.toList.all fun u => !Tryz.prog.wantsStandIn u) = true := by kernel_rfl
  exact (show Tryz.prog.wantsStandIn t = false by simpa using List.all_eq_true.1 hall t (by simpa using Array.mem_of_getElem? ht))
/-- ████ THE CARD ████ -/
theorem dirfsPlays_holds : Rows.DirfsPlaysCardSaid :=
  Claim7.holds_tied_plain_at .later [] _ _ _ _ dirfsPlays_said (fun _ h => by cases h) (by kernel_rfl) (fun _ h => by cases h) dirfsPlays_row_tie rfl ⟨rfl, rfl⟩ (by kernel_rfl) rfl dirfsPlays_plain (by kernel_rfl)
#print axioms dirfsPlays_holds
end Go.Proofs.YtcpmhjealiajpaaGreatDoor
