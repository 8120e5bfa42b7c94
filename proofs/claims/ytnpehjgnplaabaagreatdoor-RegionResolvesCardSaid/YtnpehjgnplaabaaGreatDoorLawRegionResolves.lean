/-
  swinglelaw31.RegionResolves: both trees, what is known then, and what clashed, of any two trees, by any policy
  Whatever the input, the law's function returns true, and each argument reads behind the call as it read before.
-/
import Derived.Test.YtnpehjgnplaabaaGreatDoorJoin17
set_option linter.unusedVariables false
set_option maxRecDepth 100000
namespace Go.Proofs.YtnpehjgnplaabaaGreatDoor
open Go.ChangeShapes Go.WideShapes Go.ChangeAt Go.RowKit
theorem regionResolves_spec (H:Type)(ds:List (DataW H))(h:ds.length=Tryz.f3.params.size):Rows.regionResolvesSpec.fn H ds={results:=[.lit (.bool true)],args:=ds}:=by
 have h':ds.length=3:=h
 match ds,h' with
 | [_,_,_],_=>rfl
theorem regionResolves_lifted (os:Os)(started:os.Started)(H:Type)(enc:TypeId×Value→H):
  ReturnsInHanded {} Tryz.checked os 3 .any (fun w args=>(Rows.regionResolvesSpec.pre enc Tryz.prog Tryz.f3 Rows.regionResolvesRow.domain false w args∧laidMetH Tryz.prog Rows.regionResolvesRow.laid w)∧sizedMet enc Tryz.prog Tryz.f3 (OpenSpec.ofChange Rows.regionResolvesSpec) false w args)
   (Rows.regionResolvesSpec.post enc Tryz.prog Tryz.f3 false true false false):=
 lifted_laid 3 Tryz.f3 Rows.regionResolvesSpec rfl regionResolves_spec rfl (by kernel_rfl) Tryz.func3 (by kernel_rfl) regionResolves_walk os started H enc Rows.regionResolvesRow.domain Rows.regionResolvesRow.laid
  (ChangeSpec.witness_shaped (enc:=enc) (C:=Tryz.checked) (os:=os) (X:=fun w _=>laidMetH Tryz.prog Rows.regionResolvesRow.laid w) false (World.laidAll Tryz.prog os Rows.regionResolvesRow.laid) #[.agg #[.slice none 0 0,.slice none 0 0],.agg #[.slice none 0 0,.slice none 0 0],.int .i64 0] 8 (World.laidAll_os _ _ _)
   (World.shaped_of_ZipB (by kernel_rfl) (by kernel_rfl)) (by kernel_rfl) (by kernel_rfl) (by kernel_rfl)
   (by rw[MakeChecks.laidMetH_plain _ _ _ (by kernel_rfl)];exact laidMet_laidAll _ (by kernel_rfl) (by kernel_rfl)))
theorem regionResolves_said:Rows.RegionResolvesSaid:=
 OpenClaim.holds_of_wide 3 Tryz.f3 rfl rfl rfl rfl rfl rfl rfl ⟨rfl,rfl,rfl,rfl,rfl⟩ rfl rfl rfl rfl rfl (by kernel_rfl) Tryz.func3 (by kernel_rfl)
  (of_decide_eq_true (by kernel_rfl)) (by unfold Func.isWrapper;rw[if_neg (of_decide_eq_false (by kernel_rfl))];exact⟨rfl,rfl⟩)
  (fun os started H enc _=>regionResolves_lifted os started H enc)
theorem regionResolves_plain (f:FuncId)(fn:Func)(hf:Tryz.pinned.checked.prog.funcNamed "swingle/swinglelaw31.RegionResolves" =some f)(hfn:Tryz.pinned.checked.prog.funcs[f]? =some fn):
  false=Tryz.pinned.checked.prog.looks []∧∀(j:Nat) t,fn.params[j]? =some t→Tryz.pinned.checked.prog.wantsStandIn t=false:=by
 obtain rfl:f=3:=Option.some.inj ((show Tryz.prog.funcNamed "swingle/swinglelaw31.RegionResolves" =some 3 by kernel_rfl).symm.trans hf)|>.symm;obtain rfl:fn=Tryz.f3:=(Option.some.inj (Tryz.func3.symm.trans hfn)).symm;refine⟨by kernel_rfl,fun j t ht=>?_⟩;have hall:(Tryz.f3.params.toList.all fun u=> !Tryz.prog.wantsStandIn u)=true:=by kernel_rfl
 exact(show Tryz.prog.wantsStandIn t=false by simpa using List.all_eq_true.1 hall t (by simpa using Array.mem_of_getElem? ht))
theorem regionResolves_holds:Rows.RegionResolvesCardSaid:=
 Claim7.holds_tied_plain_at .later [] _ _ _ _ regionResolves_said (fun _ h=>by cases h) (by kernel_rfl) (fun _ h=>by cases h) regionResolves_row_tie rfl ⟨rfl,rfl⟩ (by kernel_rfl) rfl regionResolves_plain (by kernel_rfl)
#print axioms regionResolves_holds
end Go.Proofs.YtnpehjgnplaabaaGreatDoor
