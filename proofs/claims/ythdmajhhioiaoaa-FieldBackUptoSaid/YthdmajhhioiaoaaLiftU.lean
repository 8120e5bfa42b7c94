/- From a walk to the given statement of the second form ('what is read is of bulk at most 1048576'): for every law of this seat that answers true and writes nothing that was there. -/
import Derived.Test.YthdmajhhioiaoaaLift
import Derived.Test.YthdmajhhioiaoaaOpen
import Derived.JoinedCond
set_option linter.unusedVariables false
namespace Go.Proofs.Ythdmajhhioiaoaa
open Go.ChangeShapes Go.WideShapes Go.ChangeAt Go.RowKit Go.Deep
open Sw
/-- What a walk shows of a law, where what is read is of bulk at most 1048576. -/
def WalksU (K : FuncId) (f : Func) : Prop :=
  ∀ (H : Type) (enc : TypeId × Value → H) (W : World) (base : Nat) (args : Array Value) (ds : List (DataW H)) (ps : List MemPlace),
    (∀ (j : Nat) t v, f.params[j]? = some t → args[j]? = some v → Value.okWide Try.prog W .any base t v) →
    DataW.TrodAll enc Try.prog W 0 (fun _ => true) true f.params.toList args.toList ds ps →
    (∀ x ∈ ps, x.block < W.heap.size) → Rows.uptoBulkAll ds ≤ 1048576 →
    Calls Try.prog K args W fun e W' => e = .returned (.bool true) ∧ Below W.heap.size W W'
set_option maxRecDepth 100000 in
theorem lifted_of_walksU (K : FuncId) (f : Func) (s : ChangeSpec) (hv : s.vars = []) (hs : ∀ H (ds : List (DataW H)), ds.length = f.params.size → s.fn H ds = { results := [.lit (.bool true)], args := ds })
    (hres : f.resultTypes = #[4]) (hread : (f.params.toList.all fun t => Try.prog.readableRec t && decide (t < Try.prog.types.size)) = true) (hf : Try.prog.funcs[K]? = some f)
    (hinit : Try.prog.inits.idxOf? K = none)
    (walk : WalksU K f) (os : Os) (started : os.Started) (H : Type) (enc : TypeId × Value → H) (F : Stop.Interp)
    (witness : ∃ (w : World) (tape : Tape) (i : Input), w.os = os ∧ (w.forCall tape i).Shaped Try.checked.prog ∧ i.vars = [] ∧ Input.okWide Try.checked.prog (w.forCall tape i) .any w.heap.size K i ∧
      (Rows.OpenSpec.upto s).pre6 enc Try.checked.prog f [] false (w.forCall tape i).memory i.args ∧ ({} : Assume).holds Try.checked.prog (lone (Frame.enter Try.checked.prog K i.args .normal) [] (w.forCall tape i))) :
    ReturnsInHanded {} Try.checked os K .any ((Rows.OpenSpec.upto s).pre6 enc Try.prog f [] false) (((Rows.OpenSpec.upto s).at F).post enc Try.prog f false true false false) := by
  refine returnsInHanded_of_cond (C := Try.checked) (s := Rows.OpenSpec.upto s) (k := Rows.uptoSmall) rfl own started hinit hf witness ?_
  intro W base args ds gs before hval0 hW0 _ hk _
  have hW : DataW.Whole enc Try.prog f.params.toList s.vars false W args.toList ds gs before := hW0
  have hW' := hW
  obtain ⟨p, q, hA0, hV, rfl, hfz, hnd⟩ := hW
  have hA : DataW.TrodAll enc Try.prog W 0 (fun _ => true) true f.params.toList args.toList ds p := hA0
  have hlt : ∀ x ∈ p, x.block < W.heap.size := fun x hx => hW'.lt x (List.mem_append_left _ hx)
  rw [hv] at hV
  obtain ⟨rfl, rfl⟩ := trodVars_none hV
  have hlen : ds.length = f.params.size := by
    have hg : ∀ (ts : List TypeId) (vs : List Value) (ds : List (DataW H)) (ps : List MemPlace), DataW.TrodAll enc Try.prog W 0 (fun _ => true) true ts vs ds ps → ds.length = ts.length := by
      intro ts
      induction ts with
      | nil => intro vs ds ps h; obtain ⟨rfl, rfl, rfl⟩ := trodAll_nil h; rfl
      | cons t ts ih =>
        intro vs ds ps h
        obtain ⟨v, vs', d, ds', p, q, rfl, rfl, rfl, hd, hr⟩ := trodAll_cons h
        rw [List.length_cons, List.length_cons, ih _ _ _ hr]
    rw [hg _ _ _ _ hA, Array.length_toList]
  rw [List.append_nil] at hk
  refine (walk H enc W base args ds p hval0 hA hlt (of_decide_eq_true hk)).mono fun e W' ⟨he, bel⟩ => ?_
  subst he
  have hsp : s.fn H (ds ++ []) = { results := [.lit (.bool true)], args := ds } := by rw [List.append_nil]; exact hs H ds hlen
  refine ⟨_, rfl, ?_⟩
  show s.post enc Try.prog f false true false false W args _ W'
  refine ⟨ds, [], p ++ [], [], p, [], hW', ?_, ?_, ?_, bel.frame _, fun h => by cases h⟩
  · rw [hsp, hres]; exact trodAll_mk1 (shut_bool Try.underlying4 _)
  · rw [hsp]; exact trodAll_below laidOut bel _ _ _ _ hread hA hlt
  · rw [hsp, hv]; exact rfl
/-! What the bound gives. -/
theorem bulk_one {H : Type} (d : DataW H) : 1 ≤ Rows.uptoBulk d := by
  cases d with
  | lit l => cases l <;> simp [Rows.uptoBulk]
  | nil => simp [Rows.uptoBulk]
  | ptr d => simp [Rows.uptoBulk]
  | slice elems spare => simp [Rows.uptoBulk]
  | agg parts => simp [Rows.uptoBulk]
  | iface t d => simp [Rows.uptoBulk]
  | map entries => simp [Rows.uptoBulk]
  | held h => simp [Rows.uptoBulk]
theorem bulk_part {H : Type} {d : DataW H} {l : List (DataW H)} (h : d ∈ l) : Rows.uptoBulk d ≤ Rows.uptoBulkAll l := by
  induction l with
  | nil => cases h
  | cons x r ih =>
    simp only [Rows.uptoBulkAll]
    cases List.mem_cons.1 h with
    | inl e => subst e; omega
    | inr e => have := ih e; omega
theorem bulk_append {H : Type} (l r : List (DataW H)) : Rows.uptoBulkAll (l ++ r) = Rows.uptoBulkAll l + Rows.uptoBulkAll r := by
  induction l with
  | nil => simp [Rows.uptoBulkAll]
  | cons x l ih => simp only [List.cons_append, Rows.uptoBulkAll, ih]; omega
theorem bulk_length {H : Type} (l : List (DataW H)) : l.length ≤ Rows.uptoBulkAll l := by
  induction l with
  | nil => simp [Rows.uptoBulkAll]
  | cons x r ih => have := bulk_one x; simp only [Rows.uptoBulkAll, List.length_cons]; omega
theorem bulk_string {H : Type} (s : ByteArray) : Rows.uptoBulk (DataW.lit (H := H) (.string s.data.toList)) = s.size + 1 := by
  simp only [Rows.uptoBulk, Array.length_toList]; rfl
theorem bulk_slice {H : Type} (e r : List (DataW H)) : Rows.uptoBulkAll e + 1 ≤ Rows.uptoBulk (.slice e r) := by
  simp only [Rows.uptoBulk]; omega
theorem bulk_map {H α : Type} (f : α → Nat) : ∀ (l : List α) (D : Nat → DataW H), (∀ i (h : i < l.length), f l[i] ≤ Rows.uptoBulk (D i)) → (l.map f).sum ≤ Rows.uptoBulkAll ((List.range l.length).map D) := by
  intro l
  induction l with
  | nil => intro D _; simp
  | cons a l ih =>
    intro D h
    have h0 := h 0 (by simp)
    have := ih (fun i => D (i + 1)) (fun i hi => h (i + 1) (by simpa using hi))
    rw [List.length_cons, List.range_succ_eq_map]
    simp only [List.map_cons, List.sum_cons, Rows.uptoBulkAll, List.map_map]
    simp only [List.getElem_cons_zero] at h0
    have e : (D ∘ Nat.succ) = fun i => D (i + 1) := rfl
    rw [e]
    omega
/-- An argument that is a slice, by a decoder of its elements, with what the elements weigh. -/
theorem open_slice_bulk {H : Type} {enc : TypeId × Value → H} {P : Program} {w : World} {α : Type} {r : Reach} {b0 : Nat} (E : α → List Value) (V : α → Prop) (wt : α → Nat) {t e : TypeId} {v : Value} {d : DataW H} {p : List MemPlace} {size : Nat} (ht : P.underlying t = some (.slice e)) (hC : P.cellsOf e = size) (hs : 0 < size)
    (hdec : ∀ fuel cs x, DataW.trod enc P w 0 (fun _ => true) true fuel e cs = some x → ∃ a : α, cs = E a ∧ V a ∧ wt a ≤ Rows.uptoBulk x.1)
    (hv : Value.okWide P w r b0 t v) (h : DataW.Trod enc P w 0 (fun _ => true) true t v d p) :
    ∃ (A : Option Addr) (n c : Nat) (l : List α), v = .slice A n c ∧ n ≤ c ∧ c ≤ maxLen ∧ l.length = n ∧ SlOf w size E A l ∧ (∀ a ∈ l, V a) ∧ (A = none → n = 0 ∧ c = 0) ∧ (l.map wt).sum ≤ Rows.uptoBulk d := by
  obtain ⟨A, n, c, rfl⟩ := okWide_slice ht hv
  obtain ⟨fuel, hf⟩ := h
  rcases open_slice ht hf with ⟨h0, _⟩ | ⟨a, len, cap, m, k, D, Pl, hcs, hb, hl, hm, hmm, hx, hi⟩
  · simp [Value.cells] at h0
    obtain ⟨rfl, rfl, rfl⟩ := h0
    exact ⟨none, 0, 0, [], rfl, Nat.le_refl _, by simp [maxLen], rfl, SlOf.nil _ _ _ _, by simp, fun _ => ⟨rfl, rfl⟩, by simp⟩
  · simp [Value.cells] at hcs
    obtain ⟨rfl, rfl, rfl⟩ := hcs
    rw [hC] at hi
    have hmc : m = c := by simpa using hmm
    subst hmc
    obtain ⟨l, hlen, hq⟩ := exists_list (Q := fun i (x : α) => V x ∧ (E x).length = size ∧ wt x ≤ Rows.uptoBulk (D i) ∧ ∀ j, j < size → w.cell? ((a.add (i * size)).add j) = (E x)[j]?) n (fun i hin => by
      obtain ⟨cs', hc, htr⟩ := hi i (by omega)
      obtain ⟨x, rfl, hx, hw⟩ := hdec _ _ _ htr
      obtain ⟨_, hcl, hat⟩ := World.cells?_some hc
      exact ⟨x, hx, hcl, hw, fun j hj => hat j hj⟩)
    refine ⟨some a, n, m, l, rfl, hl, hm, hlen, fun hn => ?_, fun x hx => ?_, by simp, ?_⟩
    · obtain ⟨_, hsz, _, hat⟩ := hq 0 hn
      have h0 := hat 0 hs
      rw [List.getElem?_eq_getElem (by omega)] at h0
      have hsp := World.cell?_spot h0
      have hlt := World.block_lt_of_cell? w _ h0
      rw [add_add, Nat.zero_mul, Nat.add_zero] at hsp hlt
      rw [show a.add 0 = a from rfl] at hsp hlt
      obtain ⟨b, off, spot⟩ := a
      have hsp' : spot = none := hsp
      subst hsp'
      refine ⟨b, off, rfl, hlt, fun i hi j hj => ?_⟩
      have h1 := (hq i hi).2.2.2 j hj
      rw [add_mk, add_mk] at h1
      exact h1
    · obtain ⟨i, hi', rfl⟩ := List.getElem_of_mem hx
      exact (hq i hi').1
    · have hd : d = .slice ((List.range n).map D) ((List.range (m - n)).map fun j => D (n + j)) := by
        injection hx
      rw [hd]
      refine Nat.le_trans ?_ (bulk_slice _ _)
      have := bulk_map wt l D (fun i hi' => (hq i hi').2.2.1)
      rw [hlen] at this
      omega
end Go.Proofs.Ythdmajhhioiaoaa
