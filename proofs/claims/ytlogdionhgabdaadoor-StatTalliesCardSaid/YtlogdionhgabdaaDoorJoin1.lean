/- Several texts, joined for the limit of sixty files; each one opens with its own comment. -/
import Derived.Test.YtlogdionhgabdaaDoorRows
import Derived.WalkKit
import Derived.ProofKit
import Derived.OpenShut
import Derived.ShutString
import Derived.ChangeOld
import Derived.Below
import Derived.SizedLaws
import Derived.Test.YtlogdionhgabdaaDoorCards
import Derived.Test.YtlogdionhgabdaaDoorTie
import Derived.LaidMore
import Derived.Lay
import Derived.SevenTiedAt
import Derived.Stop.Joined
/- From a walk to the given statement: for every law of this seat that answers true and writes nothing that was there. -/
set_option linter.unusedVariables false
namespace Go.Proofs.YtlogdionhgabdaaDoor
open Go.ChangeShapes Go.WideShapes Go.ChangeAt Go.RowKit
theorem own : ownKnob Tryd.prog.godebug = none := by kernel_rfl
theorem laidOut : laidOutB Tryd.prog = true := by kernel_rfl
/-- All arguments read as they did: below the heap's old size nothing has turned. -/
theorem trodAll_below {H : Type} {enc : TypeId × Value → H} {P : Program} (hl : laidOutB P = true) {W W' : World} (hb : Below W.heap.size W W') :
    ∀ (ts : List TypeId) (vs : List Value) (ds : List (DataW H)) (ps : List MemPlace), (ts.all fun t => P.readableRec t && decide (t < P.types.size)) = true →
      DataW.TrodAll enc P W 0 (fun _ => true) true ts vs ds ps → (∀ x ∈ ps, x.block < W.heap.size) → DataW.TrodAll enc P W' 0 (fun b => decide (b < W.heap.size)) true ts vs ds ps := by
  intro ts
  induction ts with
  | nil =>
    intro vs ds ps _ h _
    obtain ⟨rfl, rfl, rfl⟩ := trodAll_nil h
    exact trodAll_mk0
  | cons t ts ih =>
    intro vs ds ps hts h hlt
    obtain ⟨v, vs', d, ds', p, q, rfl, rfl, rfl, hd, hr⟩ := trodAll_cons h
    simp only [List.all_cons, Bool.and_eq_true, decide_eq_true_eq] at hts
    exact trodAll_cons_mk (Below.trod hl hts.1.1 hts.1.2 hd hb (fun x hx => hlt x (List.mem_append_left _ hx)))
      (ih vs' ds' q hts.2 hr (fun x hx => hlt x (List.mem_append_right _ hx)))
/-- What a walk shows of a law. -/
def Walks (K : FuncId) (f : Func) : Prop :=
  ∀ (H : Type) (enc : TypeId × Value → H) (W : World) (base : Nat) (args : Array Value) (ds : List (DataW H)) (ps : List MemPlace),
    (∀ (j : Nat) t v, f.params[j]? = some t → args[j]? = some v → Value.okWide Tryd.prog W .any base t v) →
    DataW.TrodAll enc Tryd.prog W 0 (fun _ => true) true f.params.toList args.toList ds ps →
    (∀ x ∈ ps, x.block < W.heap.size) →
    (DataW.weightsEach Tryd.prog f.params.toList ds).all (· ≤ reachBytes) = true →
    Calls Tryd.prog K args W fun e W' => e = .returned (.bool true) ∧ Below W.heap.size W W'
set_option maxRecDepth 100000 in
theorem lifted_of_walks (K : FuncId) (f : Func) (s : ChangeSpec) (hv : s.vars = []) (hs : ∀ H (ds : List (DataW H)), ds.length = f.params.size → s.fn H ds = { results := [.lit (.bool true)], args := ds })
    (hres : f.resultTypes = #[4]) (hread : (f.params.toList.all fun t => Tryd.prog.readableRec t && decide (t < Tryd.prog.types.size)) = true) (hf : Tryd.prog.funcs[K]? = some f)
    (hinit : Tryd.prog.inits.idxOf? K = none)
    (walk : Walks K f) (os : Os) (started : os.Started) (H : Type) (enc : TypeId × Value → H)
    (witness : ∃ (w : World) (tape : Tape) (i : Input), w.os = os ∧ (w.forCall tape i).Shaped Tryd.checked.prog ∧ i.vars = [] ∧ Input.okWide Tryd.checked.prog (w.forCall tape i) .any w.heap.size K i ∧
      s.pre6 enc Tryd.checked.prog f [] false (w.forCall tape i).memory i.args ∧ ({} : Assume).holds Tryd.checked.prog (lone (Frame.enter Tryd.checked.prog K i.args .normal) [] (w.forCall tape i))) :
    ReturnsInHanded {} Tryd.checked os K .any (s.pre6 enc Tryd.prog f [] false) (s.post enc Tryd.prog f false true false false) := by
  refine returnsInHanded_of_change_sized (C := Tryd.checked) own started hinit hf witness ?_
  intro W base args ds gs before hval0 hW _ hsz _
  have hW' := hW
  obtain ⟨p, q, hA0, hV, rfl, hfz, hnd⟩ := hW
  have hA : DataW.TrodAll enc Tryd.prog W 0 (fun _ => true) true f.params.toList args.toList ds p := hA0
  have hlt : ∀ x ∈ p, x.block < W.heap.size := fun x hx => hW'.lt x (List.mem_append_left _ hx)
  rw [hv] at hV
  obtain ⟨rfl, rfl⟩ := trodVars_none hV
  have hlen : ds.length = f.params.size := by
    have hg : ∀ (ts : List TypeId) (vs : List Value) (ds : List (DataW H)) (ps : List MemPlace), DataW.TrodAll enc Tryd.prog W 0 (fun _ => true) true ts vs ds ps → ds.length = ts.length := by
      intro ts
      induction ts with
      | nil => intro vs ds ps h; obtain ⟨rfl, rfl, rfl⟩ := trodAll_nil h; rfl
      | cons t ts ih =>
        intro vs ds ps h
        obtain ⟨v, vs', d, ds', p, q, rfl, rfl, rfl, hd, hr⟩ := trodAll_cons h
        rw [List.length_cons, List.length_cons, ih _ _ _ hr]
    rw [hg _ _ _ _ hA, Array.length_toList]
  have hsz' : (DataW.weightsEach Tryd.prog f.params.toList ds).all (· ≤ reachBytes) = true := by
    have e : s.plain.varTypes Tryd.checked.prog = [] := by
      simp [DataSpec.varTypes, ChangeSpec.plain, hv]
    rw [e, List.append_nil, List.append_nil] at hsz
    exact hsz
  refine (walk H enc W base args ds p hval0 hA hlt hsz').mono fun e W' ⟨he, bel⟩ => ?_
  subst he
  have hsp : s.fn H (ds ++ []) = { results := [.lit (.bool true)], args := ds } := by rw [List.append_nil]; exact hs H ds hlen
  refine ⟨_, rfl, ds, [], p ++ [], [], p, [], hW', ?_, ?_, ?_, bel.frame _, fun h => by cases h⟩
  · rw [hsp, hres]; exact trodAll_mk1 (shut_bool Tryd.underlying4 _)
  · rw [hsp]; exact trodAll_below laidOut bel _ _ _ _ hread hA hlt
  · rw [hsp, hv]; exact rfl
end Go.Proofs.YtlogdionhgabdaaDoor
/- From a walk to the given statement, for a law whose row lists tables of the library. -/
set_option linter.unusedVariables false
namespace Go.Proofs.YtlogdionhgabdaaDoor
open Go.ChangeShapes Go.WideShapes Go.ChangeAt Go.RowKit
set_option maxRecDepth 100000 in
theorem lifted_laid (K : FuncId) (f : Func) (s : ChangeSpec) (hv : s.vars = []) (hs : ∀ H (ds : List (DataW H)), ds.length = f.params.size → s.fn H ds = { results := [.lit (.bool true)], args := ds })
    (hres : f.resultTypes = #[4]) (hread : (f.params.toList.all fun t => Tryd.prog.readableRec t && decide (t < Tryd.prog.types.size)) = true) (hf : Tryd.prog.funcs[K]? = some f)
    (hinit : Tryd.prog.inits.idxOf? K = none)
    (walk : Walks K f) (os : Os) (started : os.Started) (H : Type) (enc : TypeId × Value → H) (dom : List PathCond) (laid : List (String × DataW Unit))
    (witness : ∃ (w : World) (tape : Tape) (i : Input), w.os = os ∧ (w.forCall tape i).Shaped Tryd.checked.prog ∧ i.vars = [] ∧ Input.okWide Tryd.checked.prog (w.forCall tape i) .any w.heap.size K i ∧
      ((s.pre enc Tryd.checked.prog f dom false (w.forCall tape i).memory i.args ∧ laidMetH Tryd.prog laid (w.forCall tape i).memory) ∧ sizedMet enc Tryd.checked.prog f (OpenSpec.ofChange s) false (w.forCall tape i).memory i.args) ∧ ({} : Assume).holds Tryd.checked.prog (lone (Frame.enter Tryd.checked.prog K i.args .normal) [] (w.forCall tape i))) :
    ReturnsInHanded {} Tryd.checked os K .any (fun w args => (s.pre enc Tryd.prog f dom false w args ∧ laidMetH Tryd.prog laid w) ∧ sizedMet enc Tryd.prog f (OpenSpec.ofChange s) false w args) (s.post enc Tryd.prog f false true false false) := by
  refine returnsInHanded_of_change_and (C := Tryd.checked) (X := fun w _ => laidMetH Tryd.prog laid w) (fun _ _ _ hh h => h.of_heap hh) own started hinit hf witness ?_
  intro W base args ds gs before hval0 hW _ hsz _ _
  have hW' := hW
  obtain ⟨p, q, hA0, hV, rfl, hfz, hnd⟩ := hW
  have hA : DataW.TrodAll enc Tryd.prog W 0 (fun _ => true) true f.params.toList args.toList ds p := hA0
  have hlt : ∀ x ∈ p, x.block < W.heap.size := fun x hx => hW'.lt x (List.mem_append_left _ hx)
  rw [hv] at hV
  obtain ⟨rfl, rfl⟩ := trodVars_none hV
  have hlen : ds.length = f.params.size := by
    have hg : ∀ (ts : List TypeId) (vs : List Value) (ds : List (DataW H)) (ps : List MemPlace), DataW.TrodAll enc Tryd.prog W 0 (fun _ => true) true ts vs ds ps → ds.length = ts.length := by
      intro ts
      induction ts with
      | nil => intro vs ds ps h; obtain ⟨rfl, rfl, rfl⟩ := trodAll_nil h; rfl
      | cons t ts ih =>
        intro vs ds ps h
        obtain ⟨v, vs', d, ds', p, q, rfl, rfl, rfl, hd, hr⟩ := trodAll_cons h
        rw [List.length_cons, List.length_cons, ih _ _ _ hr]
    rw [hg _ _ _ _ hA, Array.length_toList]
  have hsz' : (DataW.weightsEach Tryd.prog f.params.toList ds).all (· ≤ reachBytes) = true := by
    have e : s.plain.varTypes Tryd.checked.prog = [] := by
      simp [DataSpec.varTypes, ChangeSpec.plain, hv]
    rw [e, List.append_nil, List.append_nil] at hsz
    exact hsz
  refine (walk H enc W base args ds p hval0 hA hlt hsz').mono fun e W' ⟨he, bel⟩ => ?_
  subst he
  have hsp : s.fn H (ds ++ []) = { results := [.lit (.bool true)], args := ds } := by rw [List.append_nil]; exact hs H ds hlen
  refine ⟨_, rfl, ds, [], p ++ [], [], p, [], hW', ?_, ?_, ?_, bel.frame _, fun h => by cases h⟩
  · rw [hsp, hres]; exact trodAll_mk1 (shut_bool Tryd.underlying4 _)
  · rw [hsp]; exact trodAll_below laidOut bel _ _ _ _ hread hA hlt
  · rw [hsp, hv]; exact rfl
end Go.Proofs.YtlogdionhgabdaaDoor
