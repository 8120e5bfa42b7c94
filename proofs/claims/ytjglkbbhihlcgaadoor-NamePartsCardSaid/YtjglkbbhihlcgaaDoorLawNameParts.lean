/-
  swinglelaw13.NameParts: whether any text is a path, its parts, its parent and its base, and any parts as one
  Whatever the input, the law's function returns true, and each argument reads behind the call as it read before. The row lists two tables of the library, which the walk does not read; the witness lays them.
-/
import Derived.Test.YtjglkbbhihlcgaaDoorLiftL
import Derived.Test.YtjglkbbhihlcgaaDoorNamePartsWalk
set_option linter.unusedVariables false
namespace Go.Proofs.YtjglkbbhihlcgaaDoor
open Go.ChangeShapes Go.WideShapes Go.ChangeAt Go.RowKit
theorem nameParts_spec (H : Type) (ds : List (DataW H)) (h : ds.length = Tryd.f6.params.size) : Rows.namePartsSpec.fn H ds = { results := [.lit (.bool true)], args := ds } := by
  have h' : ds.length = 2 := h
  match ds, h' with
  | [_, _], _ => rfl
set_option maxRecDepth 100000 in
theorem nameParts_lifted (os : Os) (started : os.Started) (H : Type) (enc : TypeId × Value → H) :
    ReturnsInHanded {} Tryd.checked os 6 .any (fun w args => (Rows.namePartsSpec.pre enc Tryd.prog Tryd.f6 Rows.namePartsRow.domain false w args ∧ laidMetH Tryd.prog Rows.namePartsRow.laid w) ∧ sizedMet enc Tryd.prog Tryd.f6 (OpenSpec.ofChange Rows.namePartsSpec) false w args)
      (Rows.namePartsSpec.post enc Tryd.prog Tryd.f6 false true false false) :=
  lifted_laid 6 Tryd.f6 Rows.namePartsSpec rfl nameParts_spec rfl (by kernel_rfl) Tryd.func6 (by kernel_rfl) nameParts_walk os started H enc Rows.namePartsRow.domain Rows.namePartsRow.laid
    (ChangeSpec.witness_shaped (enc := enc) (C := Tryd.checked) (os := os) (X := fun w _ => laidMetH Tryd.prog Rows.namePartsRow.laid w) false (World.laidAll Tryd.prog os Rows.namePartsRow.laid) #[.string ByteArray.empty, .slice none 0 0] 8 (World.laidAll_os _ _ _)
      (World.shaped_of_ZipB (by kernel_rfl) (by kernel_rfl)) (by kernel_rfl) (by kernel_rfl) (by kernel_rfl)
      (by rw [MakeChecks.laidMetH_plain _ _ _ (by kernel_rfl)]; exact laidMet_laidAll _ (by kernel_rfl) (by kernel_rfl)))
theorem nameParts_said : Rows.NamePartsSaid :=
  OpenClaim.holds_of_wide 6 Tryd.f6 rfl rfl rfl rfl rfl rfl rfl ⟨rfl, rfl, rfl, rfl, rfl⟩ rfl rfl rfl rfl rfl (by kernel_rfl) Tryd.func6 (by kernel_rfl)
    (of_decide_eq_true (by kernel_rfl)) (by unfold Func.isWrapper; rw [if_neg (of_decide_eq_false (by kernel_rfl))]; exact ⟨rfl, rfl⟩)
    (fun os started H enc _ => nameParts_lifted os started H enc)
theorem nameParts_plain (f : FuncId) (fn : Func) (hf : Tryd.pinned.checked.prog.funcNamed "swingle/swinglelaw13.NameParts" = some f) (hfn : Tryd.pinned.checked.prog.funcs[f]? = some fn) :
    false = Tryd.pinned.checked.prog.looks [] ∧ ∀ (j : Nat) t, fn.params[j]? = some t → Tryd.pinned.checked.prog.wantsStandIn t = false := by
  obtain rfl : f = 6 := Option.some.inj ((show Tryd.prog.funcNamed "swingle/swinglelaw13.NameParts" = some 6 by kernel_rfl).symm.trans hf) |>.symm
  obtain rfl : fn = Tryd.f6 := (Option.some.inj (Tryd.func6.symm.trans hfn)).symm
  refine ⟨by kernel_rfl, fun j t ht => ?_⟩
  have hall : (Tryd.f6.params.toList.all fun u => !Tryd.prog.wantsStandIn u) = true := by kernel_rfl
  exact (show Tryd.prog.wantsStandIn t = false by simpa using List.all_eq_true.1 hall t (by simpa using Array.mem_of_getElem? ht))
/-- ████ THE CARD ████ -/
theorem nameParts_holds : Rows.NamePartsCardSaid :=
  Claim7.holds_tied_plain_at .later [] _ _ _ _ nameParts_said (fun _ h => by cases h) (by kernel_rfl) (fun _ h => by cases h) nameParts_row_tie rfl ⟨rfl, rfl⟩ (by kernel_rfl) rfl nameParts_plain (by kernel_rfl)
#print axioms nameParts_holds
end Go.Proofs.YtjglkbbhihlcgaaDoor
