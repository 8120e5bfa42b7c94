/-
  swinglelaw38.StatusLines: a row's line is read back, and a line that reads is a row's
  Whatever the input, the law's function returns true, and each argument reads behind the call as it read before. The row lists two tables of the library, which the walk does not read; the witness lays them. The walk reads one integer of the library, whatever it holds: that the world is shaped gives it.
-/
import Derived.Test.YtpnkgldpmalklaaDoorLiftL
import Derived.Test.YtpnkgldpmalklaaDoorStatusLinesWalk
import Derived.Test.YtpnkgldpmalklaaDoorLiftS
set_option linter.unusedVariables false
namespace Go.Proofs.YtpnkgldpmalklaaDoor
open Go.ChangeShapes Go.WideShapes Go.ChangeAt Go.RowKit
theorem statusLines_spec (H : Type) (ds : List (DataW H)) (h : ds.length = Tryd.f3.params.size) : Rows.statusLinesSpec.fn H ds = { results := [.lit (.bool true)], args := ds } := by
  have h' : ds.length = 3 := h
  match ds, h' with
  | [_, _, _], _ => rfl
set_option maxRecDepth 100000 in
theorem statusLines_lifted (os : Os) (started : os.Started) (H : Type) (enc : TypeId × Value → H) :
    ReturnsInHanded {} Tryd.checked os 3 .any (fun w args => (Rows.statusLinesSpec.pre enc Tryd.prog Tryd.f3 Rows.statusLinesRow.domain false w args ∧ laidMetH Tryd.prog Rows.statusLinesRow.laid w) ∧ sizedMet enc Tryd.prog Tryd.f3 (OpenSpec.ofChange Rows.statusLinesSpec) false w args)
      (Rows.statusLinesSpec.post enc Tryd.prog Tryd.f3 false true false false) :=
  lifted_laidS 3 Tryd.f3 Rows.statusLinesSpec rfl statusLines_spec rfl (by kernel_rfl) Tryd.func3 (by kernel_rfl) statusLines_walk os started H enc Rows.statusLinesRow.domain Rows.statusLinesRow.laid
    (ChangeSpec.witness_shaped (enc := enc) (C := Tryd.checked) (os := os) (X := fun w _ => laidMetH Tryd.prog Rows.statusLinesRow.laid w) false (World.laidAll Tryd.prog os Rows.statusLinesRow.laid) #[.agg #[.string ByteArray.empty, .int .i64 0, .int .i64 0], .string ByteArray.empty, .agg #[.string ByteArray.empty, .int .i64 0]] 8 (World.laidAll_os _ _ _)
      (World.shaped_of_ZipB (by kernel_rfl) (by kernel_rfl)) (by kernel_rfl) (by kernel_rfl) (by kernel_rfl)
      (by rw [MakeChecks.laidMetH_plain _ _ _ (by kernel_rfl)]; exact laidMet_laidAll _ (by kernel_rfl) (by kernel_rfl)))
theorem statusLines_said : Rows.StatusLinesSaid :=
  OpenClaim.holds_of_wide 3 Tryd.f3 rfl rfl rfl rfl rfl rfl rfl ⟨rfl, rfl, rfl, rfl, rfl⟩ rfl rfl rfl rfl rfl (by kernel_rfl) Tryd.func3 (by kernel_rfl)
    (of_decide_eq_true (by kernel_rfl)) (by unfold Func.isWrapper; rw [if_neg (of_decide_eq_false (by kernel_rfl))]; exact ⟨rfl, rfl⟩)
    (fun os started H enc _ => statusLines_lifted os started H enc)
theorem statusLines_plain (f : FuncId) (fn : Func) (hf : Tryd.pinned.checked.prog.funcNamed "swingle/swinglelaw38.StatusLines" = some f) (hfn : Tryd.pinned.checked.prog.funcs[f]? = some fn) :
    false = Tryd.pinned.checked.prog.looks [] ∧ ∀ (j : Nat) t, fn.params[j]? = some t → Tryd.pinned.checked.prog.wantsStandIn t = false := by
  obtain rfl : f = 3 := Option.some.inj ((show Tryd.prog.funcNamed "swingle/swinglelaw38.StatusLines" = some 3 by kernel_rfl).symm.trans hf) |>.symm
  obtain rfl : fn = Tryd.f3 := (Option.some.inj (Tryd.func3.symm.trans hfn)).symm
  refine ⟨by kernel_rfl, fun j t ht => ?_⟩
  have hall : (Tryd.f3.params.toList.all fun u => !Tryd.prog.wantsStandIn u) = true := by kernel_rfl
  exact (show Tryd.prog.wantsStandIn t = false by simpa using List.all_eq_true.1 hall t (by simpa using Array.mem_of_getElem? ht))
/-- ████ THE CARD ████ -/
theorem statusLines_holds : Rows.StatusLinesCardSaid :=
  Claim7.holds_tied_plain_at .later [] _ _ _ _ statusLines_said (fun _ h => by cases h) (by kernel_rfl) (fun _ h => by cases h) statusLines_row_tie rfl ⟨rfl, rfl⟩ (by kernel_rfl) rfl statusLines_plain (by kernel_rfl)
#print axioms statusLines_holds
end Go.Proofs.YtpnkgldpmalklaaDoor
