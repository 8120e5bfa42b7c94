/- Several texts, joined for the limit of sixty files; each one opens with its own comment. -/
import Derived.Test.YtjcbjocgachpjaaGreatDoorRows
import Derived.WalkKit
import Derived.ProofKit
import Derived.OpenShut
import Derived.ShutString
import Derived.ChangeOld
import Derived.Below
import Derived.SizedLaws
import Derived.Test.YtjcbjocgachpjaaGreatDoorCards
import Derived.Test.YtjcbjocgachpjaaGreatDoorTie
import Derived.LaidMore
import Derived.Lay
import Derived.SevenTiedAt
import Derived.Stop.Joined
import Derived.Outline
import Derived.LoopTactic
import Derived.Lib.Hide
import Derived.WalkSpells
import Derived.WalkLawsBesides
import Derived.Lib.MinMax
import Derived.Laws.IdiomStrings
import Derived.Laws.OwnMore
import Derived.Deep.Draws
import Derived.Laws.Rows
import Derived.Deep.QuietTactic
import Derived.BigQuiet
import Derived.Deep.RegionHeld3
import Derived.Deep.DeepCutAuto
import Derived.Deep.DeepFit
import Derived.Deep.DeepMust
import Derived.Deep.Slices
import Derived.Deep.Fields
import Derived.ChangeSame
import Derived.ChangeKeysEq
import Derived.Laws.StructEq
/- From a walk to the given statement: for every law of this seat that answers true and writes nothing that was there. -/
set_option linter.unusedVariables false
namespace Go.Proofs.YtjcbjocgachpjaaGreatDoor
open Go.ChangeShapes Go.WideShapes Go.ChangeAt Go.RowKit
theorem own : ownKnob Tryz.prog.godebug = none := by kernel_rfl
theorem laidOut : laidOutB Tryz.prog = true := by kernel_rfl
/-- All arguments read as they did: below the heap's old size nothing has turned. -/
theorem trodAll_below {H : Type} {enc : TypeId × Value → H} {P : Program} (hl : laidOutB P = true) {W W' : World} (hb : Below W.heap.size W W') :
    ∀ (ts : List TypeId) (vs : List Value) (ds : List (DataW H)) (ps : List MemPlace), (ts.all fun t => P.readableRec t && decide (t < P.types.size)) = true →
      DataW.TrodAll enc P W 0 (fun _ => true) true ts vs ds ps → (∀ x ∈ ps, x.block < W.heap.size) → DataW.TrodAll enc P W' 0 (fun b => decide (b < W.heap.size)) true ts vs ds ps := by
  intro ts
  induction ts with
  | nil =>
    intro vs ds ps _ h _
    obtain ⟨rfl, rfl, rfl⟩ := trodAll_nil h
    exact trodAll_mk0
  | cons t ts ih =>
    intro vs ds ps hts h hlt
    obtain ⟨v, vs', d, ds', p, q, rfl, rfl, rfl, hd, hr⟩ := trodAll_cons h
    simp only [List.all_cons, Bool.and_eq_true, decide_eq_true_eq] at hts
    exact trodAll_cons_mk (Below.trod hl hts.1.1 hts.1.2 hd hb (fun x hx => hlt x (List.mem_append_left _ hx)))
      (ih vs' ds' q hts.2 hr (fun x hx => hlt x (List.mem_append_right _ hx)))
/-- What a walk shows of a law. -/
def Walks (K : FuncId) (f : Func) : Prop :=
  ∀ (H : Type) (enc : TypeId × Value → H) (W : World) (base : Nat) (args : Array Value) (ds : List (DataW H)) (ps : List MemPlace),
    (∀ (j : Nat) t v, f.params[j]? = some t → args[j]? = some v → Value.okWide Tryz.prog W .any base t v) →
    DataW.TrodAll enc Tryz.prog W 0 (fun _ => true) true f.params.toList args.toList ds ps →
    (∀ x ∈ ps, x.block < W.heap.size) →
    (DataW.weightsEach Tryz.prog f.params.toList ds).all (· ≤ reachBytes) = true →
    Calls Tryz.prog K args W fun e W' => e = .returned (.bool true) ∧ Below W.heap.size W W'
end Go.Proofs.YtjcbjocgachpjaaGreatDoor
/- From a walk to the given statement, for a law whose row lists tables of the library. -/
set_option linter.unusedVariables false
namespace Go.Proofs.YtjcbjocgachpjaaGreatDoor
open Go.ChangeShapes Go.WideShapes Go.ChangeAt Go.RowKit
set_option maxRecDepth 100000 in
theorem lifted_laid (K : FuncId) (f : Func) (s : ChangeSpec) (hv : s.vars = []) (hs : ∀ H (ds : List (DataW H)), ds.length = f.params.size → s.fn H ds = { results := [.lit (.bool true)], args := ds })
    (hres : f.resultTypes = #[4]) (hread : (f.params.toList.all fun t => Tryz.prog.readableRec t && decide (t < Tryz.prog.types.size)) = true) (hf : Tryz.prog.funcs[K]? = some f)
    (hinit : Tryz.prog.inits.idxOf? K = none)
    (walk : Walks K f) (os : Os) (started : os.Started) (H : Type) (enc : TypeId × Value → H) (dom : List PathCond) (laid : List (String × DataW Unit))
    (witness : ∃ (w : World) (tape : Tape) (i : Input), w.os = os ∧ (w.forCall tape i).Shaped Tryz.checked.prog ∧ i.vars = [] ∧ Input.okWide Tryz.checked.prog (w.forCall tape i) .any w.heap.size K i ∧
      ((s.pre enc Tryz.checked.prog f dom false (w.forCall tape i).memory i.args ∧ laidMetH Tryz.prog laid (w.forCall tape i).memory) ∧ sizedMet enc Tryz.checked.prog f (OpenSpec.ofChange s) false (w.forCall tape i).memory i.args) ∧ ({} : Assume).holds Tryz.checked.prog (lone (Frame.enter Tryz.checked.prog K i.args .normal) [] (w.forCall tape i))) :
    ReturnsInHanded {} Tryz.checked os K .any (fun w args => (s.pre enc Tryz.prog f dom false w args ∧ laidMetH Tryz.prog laid w) ∧ sizedMet enc Tryz.prog f (OpenSpec.ofChange s) false w args) (s.post enc Tryz.prog f false true false false) := by
  refine returnsInHanded_of_change_and (C := Tryz.checked) (X := fun w _ => laidMetH Tryz.prog laid w) (fun _ _ _ hh h => h.of_heap hh) own started hinit hf witness ?_
  intro W base args ds gs before hval0 hW _ hsz _ _
  have hW' := hW
  obtain ⟨p, q, hA0, hV, rfl, hfz, hnd⟩ := hW
  have hA : DataW.TrodAll enc Tryz.prog W 0 (fun _ => true) true f.params.toList args.toList ds p := hA0
  have hlt : ∀ x ∈ p, x.block < W.heap.size := fun x hx => hW'.lt x (List.mem_append_left _ hx)
  rw [hv] at hV
  obtain ⟨rfl, rfl⟩ := trodVars_none hV
  have hlen : ds.length = f.params.size := by
    have hg : ∀ (ts : List TypeId) (vs : List Value) (ds : List (DataW H)) (ps : List MemPlace), DataW.TrodAll enc Tryz.prog W 0 (fun _ => true) true ts vs ds ps → ds.length = ts.length := by
      intro ts
      induction ts with
      | nil => intro vs ds ps h; obtain ⟨rfl, rfl, rfl⟩ := trodAll_nil h; rfl
      | cons t ts ih =>
        intro vs ds ps h
        obtain ⟨v, vs', d, ds', p, q, rfl, rfl, rfl, hd, hr⟩ := trodAll_cons h
        rw [List.length_cons, List.length_cons, ih _ _ _ hr]
    rw [hg _ _ _ _ hA, Array.length_toList]
  have hsz' : (DataW.weightsEach Tryz.prog f.params.toList ds).all (· ≤ reachBytes) = true := by
    have e : s.plain.varTypes Tryz.checked.prog = [] := by
      simp [DataSpec.varTypes, ChangeSpec.plain, hv]
    rw [e, List.append_nil, List.append_nil] at hsz
    exact hsz
  refine (walk H enc W base args ds p hval0 hA hlt hsz').mono fun e W' ⟨he, bel⟩ => ?_
  subst he
  have hsp : s.fn H (ds ++ []) = { results := [.lit (.bool true)], args := ds } := by rw [List.append_nil]; exact hs H ds hlen
  refine ⟨_, rfl, ds, [], p ++ [], [], p, [], hW', ?_, ?_, ?_, bel.frame _, fun h => by cases h⟩
  · rw [hsp, hres]; exact trodAll_mk1 (shut_bool Tryz.underlying4 _)
  · rw [hsp]; exact trodAll_below laidOut bel _ _ _ _ hread hA hlt
  · rw [hsp, hv]; exact rfl
end Go.Proofs.YtjcbjocgachpjaaGreatDoor
/- Small laws of our own on the model's operations, over any program: for all seats. -/
set_option linter.unusedVariables false
namespace Sw
open Go Go.RowKit
/-- 'string([]byte{b})': the conversion of a new slice of one byte. -/
theorem conv_one {P : Program} (src dst e : TypeId) (hs : P.underlying src = some (.slice e)) (he : P.underlying e = some (.int .u8)) (hd : P.underlying dst = some .string) (w : World) (b : Int) (hb0 : 0 ≤ b) (hb : b < 256) :
    (convert src dst (.slice (some ⟨w.heap.size, 0, none⟩) 1 1)).run P (w.alloc (.cells #[.int .u8 b] e)) = .ok (.string ⟨#[UInt8.ofNat b.toNat]⟩) (w.alloc (.cells #[.int .u8 b] e)) := by
  have hn : b.toNat < 256 := by omega
  have hv : (UInt8.ofNat b.toNat).toNat = b.toNat := by simp; omega
  have h := run_convert_bytes_back (P := P) (w.alloc (.cells #[.int .u8 b] e)) src dst e ⟨w.heap.size, 0, none⟩ 1 [UInt8.ofNat b.toNat] hs he hd ?_
  · simpa using h
  · intro j hj
    have hj0 : j = 0 := by simpa using hj
    subst hj0
    have hc := World.cell?_alloc_mark w #[.int .u8 b] e (0, 0) 0
    simp only [List.getElem_cons_zero, hv, Int.toNat_of_nonneg hb0]
    rw [show ((⟨w.heap.size, 0, none⟩ : Addr).add 0) = ⟨w.heap.size, 0, none⟩ from rfl, hc]; rfl
/-! A call that leaves the world as it was, inside a region that draws: the caller's world stands on the left. -/
/-! A block that is known whole; what a step does to one block alone. -/
/-- block g is just the cells cs, of element type t; none of them is frozen -/
def Blk (w : World) (g : Nat) (t : TypeId) (cs : Array Value) : Prop := w.heap[g]? = some (.cells cs t (0, 0))
section
variable {w w' a : World} {g : Nat} {t : TypeId} {cs : Array Value}
theorem Blk.lt (h : Blk w g t cs) : g < w.heap.size := (Array.getElem?_eq_some_iff.1 h).1
theorem Blk.cell (h : Blk w g t cs) (i : Nat) : w.cell? ⟨g, i, none⟩ = cs[i]? := cell_of_row w g i cs t (0, 0) h
theorem Blk.frozen (h : Blk w g t cs) (i : Nat) : w.frozen? ⟨g, i, none⟩ = false := by
  unfold Blk at h
  simp [World.frozen?, h]
theorem Blk.new (w : World) (t : TypeId) (cs : Array Value) : Blk (w.alloc (.cells cs t)) w.heap.size t cs := heap_alloc_new w _
theorem Blk.drew (h : Blk w g t cs) : Blk w.drew g t cs := h
theorem Blk.drewN (h : Blk w g t cs) (n : Nat) : Blk (w.drewN n) g t cs := h
theorem Blk.alloc (h : Blk w g t cs) (o : Obj) : Blk (w.alloc o) g t cs := (Below.heap_alloc w o g h.lt).trans h
theorem Blk.put (h : Blk w g t cs) (i : Nat) (u : Value) : Blk (w.setCell ⟨g, i, none⟩ u) g t (cs.setIfInBounds i u) := by
  unfold Blk at h ⊢
  simp [World.setCell, Array.getElem?_modify, h]
theorem Blk.far (h : Blk w g t cs) {p : Addr} (hp : g ≠ p.block) (u : Value) : Blk (w.setCell p u) g t cs := (Below.heap_setCell w p u g hp).trans h
theorem Blk.below {B : Nat} (h : Blk w g t cs) (hb : Below B w w') (hg : g < B) : Blk w' g t cs := (hb.block g hg).trans h
theorem Blk.grown {row : Option Nat} (h : Blk w g t cs) (hb : w.grownBy w' row) (hg : some g ≠ row) : Blk w' g t cs := (hb.block g h.lt hg).trans h
theorem Blk.other {g' : Nat} {t' : TypeId} {cs' : Array Value} (h : Blk w g t cs) (h' : Blk w g' t' cs') (hne : t ≠ t') : g ≠ g' := by
  rintro rfl
  unfold Blk at h h'
  rw [h] at h'
  injection h' with h'
  injection h' with _ ht
  exact hne ht
theorem grown_refl (w : World) (row : Option Nat) : w.grownBy w row := ⟨rfl, rfl, rfl, Nat.le_refl _, fun _ _ _ => rfl⟩
theorem grown_trans {a b c : World} {row : Option Nat} (h : a.grownBy b row) (k : b.grownBy c row) : a.grownBy c row :=
  ⟨k.os.trans h.os, k.tape.trans h.tape, k.output.trans h.output, Nat.le_trans h.size k.size, fun i hi hn => (k.block i (Nat.lt_of_lt_of_le hi h.size) hn).trans (h.block i hi hn)⟩
theorem grown_drew {row : Option Nat} (h : a.grownBy w row) : a.grownBy w.drew row := ⟨h.os, h.tape, h.output, h.size, h.block⟩
theorem grown_alloc {row : Option Nat} (h : a.grownBy w row) (o : Obj) : a.grownBy (w.alloc o) row :=
  ⟨h.os, h.tape, h.output, Nat.le_trans h.size (by simp), fun i hi hne => (Below.heap_alloc w o i (Nat.lt_of_lt_of_le hi h.size)).trans (h.block i hi hne)⟩
theorem grown_put {g : Nat} (h : a.grownBy w (some g)) (i : Nat) (u : Value) : a.grownBy (w.setCell ⟨g, i, none⟩ u) (some g) :=
  ⟨h.os, h.tape, h.output, by simpa [World.setCell] using h.size, fun i hi hne => (Below.heap_setCell w _ u i (fun e => hne (by rw [e]))).trans (h.block i hi hne)⟩
theorem grown_of_drew {row : Option Nat} (h : w.drew.grownBy w' row) : w.grownBy w' row := ⟨h.os, h.tape, h.output, h.size, h.block⟩
theorem below_of_drewN {B n : Nat} (h : Below B (w.drewN n) w') : Below B w w' := ⟨h.os, h.tape, h.output, h.size, h.block⟩
theorem grown_below {row : Option Nat} (h : Below a.heap.size a w) : a.grownBy w row := ⟨h.os, h.tape, h.output, h.size, fun i hi _ => h.block i hi⟩
theorem below_drewN {B : Nat} {a w : World} (h : Below B a w) (n : Nat) : Below B a (w.drewN n) := ⟨h.os, h.tape, h.output, h.size, h.block⟩
end
/-- Two results, the first a struct or an array that lies in a block, the second in a slot. -/
theorem res_blk_tmp {P : Program} {fn : Func} {p q : Tmp} {ty : TypeId} (h : fn.results = #[.cell p ty, .tmp q]) (tmps : Array Value) (w : World) (g : Nat) (t : TypeId) (cs : Array Value) (d : TypeDesc)
    (hp : tmps.getD p undef = .pointer (some ⟨g, 0, none⟩)) (hg : Blk w g t cs)
    (hu : P.underlying ty = some d) (hd : (match d with | .struct _ | .array _ _ => true | _ => false) = true) (hi : (P.info? ty).map (·.size) = some cs.size) :
    (results fn tmps).run P w = .ok (.tuple #[.agg cs, tmps.getD q undef]) w := by
  have hp' : tmps[p]?.getD undef = .pointer (some ⟨g, 0, none⟩) := by simpa using hp
  simp [results, h, hp', asAddr, run_loadVar_row w g t ty cs (0, 0) d hg hu hd hi]
end Sw
/- Arguments that are slices, opened by a decoder of their elements: for all seats, over any program. -/
set_option linter.unusedVariables false
namespace Sw
open Go Go.RowKit Go.ChangeShapes Go.WideShapes Go.Deep
/-- The slice that begins at A holds the elements l, each of 'size' cells, as E lays them. -/
def SlOf (w : World) (size : Nat) {α : Type} (E : α → List Value) (A : Option Addr) (l : List α) : Prop :=
  0 < l.length → ∃ b off, A = some ⟨b, off, none⟩ ∧ b < w.heap.size ∧ ∀ i (h : i < l.length) j, j < size → w.cell? ⟨b, off + i * size + j, none⟩ = (E l[i])[j]?
section
variable {w w' : World} {size : Nat} {α : Type} {E : α → List Value} {A : Option Addr} {l : List α}
theorem SlOf.nil (w : World) (size : Nat) (E : α → List Value) (A : Option Addr) : SlOf w size E A [] := fun h => absurd h (by simp)
theorem SlOf.below {B : Nat} (h : SlOf w size E A l) (hb : Below B w w') (hB : w.heap.size ≤ B) : SlOf w' size E A l := fun hn => by
  obtain ⟨b, off, hA, hlt, hc⟩ := h hn
  exact ⟨b, off, hA, Nat.lt_of_lt_of_le hlt hb.size, fun i hi j hj => by rw [hb.cell (p := ⟨b, _, none⟩) (by show b < B; omega)]; exact hc i hi j hj⟩
theorem SlOf.take (h : SlOf w size E A l) (k : Nat) : SlOf w size E A (l.take k) := fun hn => by
  obtain ⟨b, off, hA, hlt, hc⟩ := h (by rw [List.length_take] at hn; omega)
  exact ⟨b, off, hA, hlt, fun i hi j hj => by
    have hi' : i < l.length := by rw [List.length_take] at hi; omega
    rw [List.getElem_take]; exact hc i hi' j hj⟩
end
/-- a block of elements of one cell, known whole, is a slice of them -/
theorem SlOf.of_blk1 {w : World} {g : Nat} {t : TypeId} {cs : Array Value} {α : Type} {e : α → Value} {l : List α} (h : Blk w g t cs) (hl : cs.toList = l.map e) : SlOf w 1 (fun x => [e x]) (some ⟨g, 0, none⟩) l :=
  fun hn => ⟨g, 0, rfl, h.lt, fun i hi j hj => by
    have hj0 : j = 0 := by omega
    subst hj0
    rw [h.cell, ← Array.getElem?_toList, hl]
    simp [List.getElem?_eq_getElem hi]⟩
theorem add_mk (b off n : Nat) : (⟨b, off, none⟩ : Addr).add n = ⟨b, off + n, none⟩ := by
  unfold Addr.add
  split
  · rename_i h; subst h; rfl
  · rfl
theorem exists_list {α : Type} {Q : Nat → α → Prop} : ∀ (n : Nat), (∀ i, i < n → ∃ a, Q i a) → ∃ l : List α, l.length = n ∧ ∀ i (h : i < l.length), Q i l[i]
  | 0, _ => ⟨[], rfl, fun i h => absurd h (by simp)⟩
  | n + 1, h => by
    obtain ⟨l, hl, hq⟩ := exists_list n (fun i hi => h i (by omega))
    obtain ⟨a, ha⟩ := h n (by omega)
    refine ⟨l ++ [a], by simp [hl], fun i hi => ?_⟩
    by_cases hin : i < l.length
    · rw [List.getElem_append_left hin]; exact hq i hin
    · have : i = n := by simp [hl] at hi; omega
      subst this
      rw [List.getElem_append_right (by omega)]
      simpa [hl] using ha
section
variable {H : Type} {enc : TypeId × Value → H} {P : Program} {w : World}
/-- A struct of one-cell fields: each cell reads as its field. -/
theorem dec_fields {e : TypeId} {fs : Array Field} {fuel : Nat} {cs : List Value} {x : DataW H × List MemPlace} (he : P.underlying e = some (.struct fs)) (hone : oneCellFields P fs = true) (hC : P.cellsOf e = fs.size)
    (h : DataW.trod enc P w 0 (fun _ => true) true fuel e cs = some x) :
    cs.length = fs.size ∧ ∀ (j : Nat) (f : Field), fs[j]? = some f → ∃ (c : Value) (n : Nat) (y : DataW H × List MemPlace), cs[j]? = some c ∧ DataW.trod enc P w 0 (fun _ => true) true n f.type [c] = some y := by
  obtain ⟨ys, n, _, _, hlen, hyl, hf⟩ := DataW.trod_struct he h
  refine ⟨hlen.trans hC, fun j f hj => ?_⟩
  obtain ⟨ho, hk⟩ := hone_of hone j f hj
  have hjl : j < fs.size := (Array.getElem?_eq_some_iff.1 hj).1
  have hjc : j < cs.length := by omega
  have h1 := hf j f hj
  rw [ho, hk, List.drop_eq_getElem_cons hjc, List.getElem?_eq_getElem (by omega)] at h1
  exact ⟨cs[j], n, _, List.getElem?_eq_getElem hjc, h1⟩
/-- An argument that is a slice, by a decoder of its elements. -/
theorem open_slice_dec {α : Type} {r : Reach} {b0 : Nat} (E : α → List Value) (V : α → Prop) {t e : TypeId} {v : Value} {d : DataW H} {p : List MemPlace} {size : Nat} (ht : P.underlying t = some (.slice e)) (hC : P.cellsOf e = size) (hs : 0 < size)
    (hdec : ∀ fuel cs x, DataW.trod enc P w 0 (fun _ => true) true fuel e cs = some x → ∃ a : α, cs = E a ∧ V a)
    (hv : Value.okWide P w r b0 t v) (h : DataW.Trod enc P w 0 (fun _ => true) true t v d p) :
    ∃ (A : Option Addr) (n c : Nat) (l : List α), v = .slice A n c ∧ n ≤ c ∧ c ≤ maxLen ∧ l.length = n ∧ SlOf w size E A l ∧ (∀ a ∈ l, V a) ∧ (A = none → n = 0 ∧ c = 0) := by
  obtain ⟨A, n, c, rfl⟩ := okWide_slice ht hv
  obtain ⟨fuel, hf⟩ := h
  rcases open_slice ht hf with ⟨h0, _⟩ | ⟨a, len, cap, m, k, D, Pl, hcs, hb, hl, hm, hmm, hx, hi⟩
  · simp [Value.cells] at h0
    obtain ⟨rfl, rfl, rfl⟩ := h0
    exact ⟨none, 0, 0, [], rfl, Nat.le_refl _, by simp [maxLen], rfl, SlOf.nil _ _ _ _, by simp, fun _ => ⟨rfl, rfl⟩⟩
  · simp [Value.cells] at hcs
    obtain ⟨rfl, rfl, rfl⟩ := hcs
    rw [hC] at hi
    have hmc : m = c := by simpa using hmm
    subst hmc
    obtain ⟨l, hlen, hq⟩ := exists_list (Q := fun i (x : α) => V x ∧ (E x).length = size ∧ ∀ j, j < size → w.cell? ((a.add (i * size)).add j) = (E x)[j]?) n (fun i hin => by
      obtain ⟨cs', hc, htr⟩ := hi i (by omega)
      obtain ⟨x, rfl, hx⟩ := hdec _ _ _ htr
      obtain ⟨_, hcl, hat⟩ := World.cells?_some hc
      exact ⟨x, hx, hcl, fun j hj => hat j hj⟩)
    refine ⟨some a, n, m, l, rfl, hl, hm, hlen, fun hn => ?_, fun x hx => ?_, by simp⟩
    · obtain ⟨_, hsz, hat⟩ := hq 0 hn
      have h0 := hat 0 hs
      rw [List.getElem?_eq_getElem (by omega)] at h0
      have hsp := World.cell?_spot h0
      have hlt := World.block_lt_of_cell? w _ h0
      rw [add_add, Nat.zero_mul, Nat.add_zero] at hsp hlt
      rw [show a.add 0 = a from rfl] at hsp hlt
      obtain ⟨b, off, spot⟩ := a
      have hsp' : spot = none := hsp
      subst hsp'
      refine ⟨b, off, rfl, hlt, fun i hi j hj => ?_⟩
      have h1 := (hq i hi).2.2 j hj
      rw [add_mk, add_mk] at h1
      exact h1
    · obtain ⟨i, hi', rfl⟩ := List.getElem_of_mem hx
      exact (hq i hi').1
end
end Sw
/- Plain laws of names: letters, parts, what stands between slashes. No program. -/
set_option linter.unusedVariables false
set_option linter.unusedSimpArgs false
namespace Sw
open Go
def mkB (l : List UInt8) : ByteArray := ⟨l.toArray⟩
theorem mkB_data (b : ByteArray) : mkB b.data.toList = b := by
  apply ByteArray.ext
  simp [mkB]
theorem data_mkB (l : List UInt8) : (mkB l).data.toList = l := by simp [mkB]
theorem mkB_size (l : List UInt8) : (mkB l).size = l.length := by
  show l.toArray.size = l.length
  simp
/-- how many bytes a letter has that begins so; between which its second one is -/
def uN (c : Nat) : Nat := if c < 128 then 1 else if 194 ≤ c ∧ c ≤ 223 then 2 else if 224 ≤ c ∧ c ≤ 239 then 3 else if 240 ≤ c ∧ c ≤ 244 then 4 else 0
def uLo (c : Nat) : Nat := if c = 224 then 160 else if c = 240 then 144 else 128
def uHi (c : Nat) : Nat := if c = 237 then 159 else if c = 244 then 143 else 191
/-- are the bytes letters, where so many are still wanted, the next between lo and hi? -/
def utfD : Nat → Nat → Nat → List UInt8 → Bool
  | 0, _, _, [] => true
  | _ + 1, _, _, [] => false
  | 0, _, _, c :: l => if uN c.toNat = 0 then false else utfD (uN c.toNat - 1) (uLo c.toNat) (uHi c.toNat) l
  | n + 1, lo, hi, b :: l => if lo ≤ b.toNat ∧ b.toNat ≤ hi then utfD n 128 191 l else false
theorem utfD_nil (lo hi : Nat) : utfD 0 lo hi [] = true := by rw [utfD]
theorem utfD_head (lo hi : Nat) (c : UInt8) (l : List UInt8) : utfD 0 lo hi (c :: l) = if uN c.toNat = 0 then false else utfD (uN c.toNat - 1) (uLo c.toNat) (uHi c.toNat) l := by rw [utfD]
theorem utfD_next (n lo hi : Nat) (b : UInt8) (l : List UInt8) : utfD (n + 1) lo hi (b :: l) = if lo ≤ b.toNat ∧ b.toNat ≤ hi then utfD n 128 191 l else false := by rw [utfD]
theorem utfD_zero (lo hi : Nat) (l : List UInt8) : utfD 0 lo hi l = utfD 0 0 0 l := by
  cases l with
  | nil => rw [utfD_nil, utfD_nil]
  | cons c l => rw [utfD_head, utfD_head]
theorem utfD_short : ∀ (l : List UInt8) (n lo hi : Nat), l.length < n → utfD n lo hi l = false
  | [], n + 1, lo, hi, _ => by rw [utfD]
  | b :: l, n + 1, lo, hi, h => by
    rw [utfD_next]
    have := utfD_short l n 128 191 (by simpa using h)
    rw [this]
    simp
theorem utfD_at (X : ByteArray) (k lo hi i : Nat) (h : i < X.size) : utfD (k + 1) lo hi (X.data.toList.drop i) = if lo ≤ X[i].toNat ∧ X[i].toNat ≤ hi then utfD k 128 191 (X.data.toList.drop (i + 1)) else false := by
  rw [List.drop_eq_getElem_cons (by simpa using h), utfD_next]
  rfl
theorem utfD_at0 (X : ByteArray) (lo hi i : Nat) (h : i < X.size) : utfD 0 lo hi (X.data.toList.drop i) = if uN X[i].toNat = 0 then false else utfD (uN X[i].toNat - 1) (uLo X[i].toNat) (uHi X[i].toNat) (X.data.toList.drop (i + 1)) := by
  rw [List.drop_eq_getElem_cons (by simpa using h), utfD_head]
  rfl
theorem utfD_at_short (X : ByteArray) (n lo hi i : Nat) (h : X.size < i + n) (hi' : i ≤ X.size) : utfD n lo hi (X.data.toList.drop i) = false := by
  refine utfD_short _ n lo hi ?_
  rw [List.length_drop]
  have : X.data.toList.length = X.size := by simp
  omega
theorem utfD_at_end (X : ByteArray) (lo hi : Nat) : utfD 0 lo hi (X.data.toList.drop X.size) = true := by
  rw [List.drop_of_length_le (by simp), utfD_nil]
theorem uN_le (c : Nat) : uN c ≤ 4 := by
  unfold uN
  (repeat' split) <;> omega
theorem uLo_le (c : Nat) : uLo c ≤ 160 ∧ uHi c ≤ 191 ∧ 128 ≤ uLo c := by
  unfold uLo uHi
  refine ⟨?_, ?_, ?_⟩ <;> (repeat' split) <;> omega
theorem ext_drop (X : ByteArray) (n : Nat) : (X.extract n X.size).data.toList = X.data.toList.drop n := by
  rw [ByteArray.data_extract, Array.toList_extract, List.extract_eq_take_drop]
  exact List.take_of_length_le (by simp)
/-- may a byte be in a part? -/
def okB (b : UInt8) : Bool := !(decide (b.toNat < 32) || decide (b.toNat = 127) || decide (b.toNat = 47) || decide (b.toNat = 92) || decide (b.toNat = 58))
/-- is it a part? -/
def partL (l : List UInt8) : Bool := l.all okB && decide (1 ≤ l.length ∧ l.length ≤ 60) && decide (l ≠ [46]) && decide (l ≠ [46, 46]) && utfD 0 0 0 l
theorem partL_bad {l : List UInt8} {i : Nat} (h : i < l.length) (hb : okB l[i] = false) : partL l = false := by
  have : l.all okB = false := by
    rw [List.all_eq_false]
    exact ⟨l[i], List.getElem_mem h, by simp [hb]⟩
  unfold partL
  rw [this]
  simp
/-- what stands between slashes -/
def spL : List UInt8 → List (List UInt8)
  | [] => [[]]
  | b :: l => if b = 47 then [] :: spL l else (b :: (spL l).headD []) :: (spL l).tail
theorem spL_ne (l : List UInt8) : spL l ≠ [] := by
  cases l with
  | nil => simp [spL]
  | cons b l => rw [spL]; split <;> simp
theorem spL_head (l : List UInt8) : (spL l).headD [] :: (spL l).tail = spL l := by
  cases h : spL l with
  | nil => exact absurd h (spL_ne l)
  | cons a t => rfl
theorem spL_slash (l : List UInt8) : spL (47 :: l) = [] :: spL l := by rw [spL, if_pos rfl]
theorem spL_app : ∀ (a r : List UInt8), (47 : UInt8) ∉ a → spL (a ++ 47 :: r) = a :: spL r
  | [], r, _ => spL_slash r
  | b :: a, r, h => by
    rw [List.mem_cons, not_or] at h
    rw [List.cons_append, spL, if_neg (fun e => h.1 e.symm), spL_app a r h.2]
    rfl
theorem spL_none : ∀ (a : List UInt8), (47 : UInt8) ∉ a → spL a = [a]
  | [], _ => rfl
  | b :: a, h => by
    rw [List.mem_cons, not_or] at h
    rw [spL, if_neg (fun e => h.1 e.symm), spL_none a h.2]
    rfl
theorem spL_no : ∀ (l : List UInt8), ∀ x ∈ spL l, (47 : UInt8) ∉ x
  | [], x, h => by
    rw [spL, List.mem_singleton] at h
    rw [h]
    simp
  | b :: l, x, h => by
    rw [spL] at h
    split at h
    · rw [List.mem_cons] at h
      rcases h with rfl | h
      · simp
      · exact spL_no l x h
    · rename_i hb
      rw [List.mem_cons] at h
      rcases h with rfl | h
      · rw [List.mem_cons, not_or]
        refine ⟨fun e => hb e.symm, ?_⟩
        have hm : (spL l).headD [] ∈ spL l := by
          cases he : spL l with
          | nil => exact absurd he (spL_ne l)
          | cons a t => exact List.mem_cons_self
        exact spL_no l _ hm
      · have hm : x ∈ spL l := by
          rw [← spL_head l]
          exact List.mem_cons_of_mem _ h
        exact spL_no l x hm
/-- parts with a slash between -/
def jnL : List (List UInt8) → List UInt8
  | [] => []
  | [x] => x
  | x :: y :: l => x ++ 47 :: jnL (y :: l)
theorem jnL_cons (x : List UInt8) (l : List (List UInt8)) (h : l ≠ []) : jnL (x :: l) = x ++ 47 :: jnL l := by
  cases l with
  | nil => exact absurd rfl h
  | cons y l => rw [jnL]
theorem jnL_snoc (x : List UInt8) : ∀ (l : List (List UInt8)), l ≠ [] → jnL (l ++ [x]) = jnL l ++ 47 :: x
  | [], h => absurd rfl h
  | [a], _ => rfl
  | a :: b :: l, _ => by
    rw [List.cons_append, jnL_cons a _ (by simp), jnL_snoc x (b :: l) (by simp), jnL_cons a (b :: l) (by simp)]
    simp
theorem jnL_spL : ∀ l : List UInt8, jnL (spL l) = l
  | [] => rfl
  | b :: l => by
    have ih := jnL_spL l
    rw [spL]
    split
    · rename_i hb
      rw [jnL_cons _ _ (spL_ne l), ih, hb]
      rfl
    · rw [← spL_head l] at ih
      generalize (spL l).headD [] = x at *
      generalize (spL l).tail = t at *
      cases t with
      | nil =>
        rw [jnL] at ih ⊢
        rw [ih]
      | cons y t =>
        rw [jnL] at ih ⊢
        rw [← ih]
        rfl
theorem spL_jnL : ∀ (l : List (List UInt8)), l ≠ [] → (∀ x ∈ l, (47 : UInt8) ∉ x) → spL (jnL l) = l
  | [], h, _ => absurd rfl h
  | [x], _, h => by rw [jnL]; exact spL_none x (h x (by simp))
  | x :: y :: l, _, h => by
    rw [jnL_cons x _ (by simp), spL_app x _ (h x (by simp)), spL_jnL (y :: l) (by simp) (fun z hz => h z (List.mem_cons_of_mem _ hz))]
/-- the name that none may have -/
def resL : List UInt8 := [46, 115, 119, 105, 110, 103, 108, 101]
/-- is it a path? -/
def rightL (p : List UInt8) : Bool := decide (p.length ≤ 200) && decide ((spL p).length ≤ 12) && decide ((spL p).headD [] ≠ resL) && (spL p).all partL
end Sw
/- More on slices that can be read: the rest of a slice. Over any program. -/
set_option linter.unusedVariables false
namespace Sw
open Go Go.RowKit
/-- the slice from its element k on -/
theorem SlOf.drop {w : World} {size : Nat} {α : Type} {E : α → List Value} {l : List α} {b off : Nat} (h : SlOf w size E (some ⟨b, off, none⟩) l) (k : Nat) : SlOf w size E (some ⟨b, off + k * size, none⟩) (l.drop k) := fun hn => by
  rw [List.length_drop] at hn
  obtain ⟨b', off', hA, hlt, hc⟩ := h (by omega)
  have hA' : (⟨b, off, none⟩ : Addr) = ⟨b', off', none⟩ := Option.some.inj hA
  have hb : b = b' := congrArg Addr.block hA'
  have ho : off = off' := congrArg Addr.off hA'
  subst hb
  subst ho
  refine ⟨b, off + k * size, rfl, hlt, fun i hi j hj => ?_⟩
  rw [List.length_drop] at hi
  have h2 := hc (k + i) (by omega) j hj
  rw [List.getElem_drop]
  rw [← h2, Nat.add_mul, Nat.add_assoc off]
/-- a value that is a slice of the elements l -/
def SlV (w : World) (size : Nat) {α : Type} (E : α → List Value) (v : Value) (l : List α) : Prop := ∃ A c, v = .slice A l.length c ∧ l.length ≤ c ∧ c ≤ maxLen ∧ SlOf w size E A l
theorem flat_get {α β : Type} {E : α → List β} {size : Nat} (hE : ∀ x, (E x).length = size) : ∀ (l : List α) (i : Nat) (h : i < l.length) (j : Nat), j < size → (l.flatMap E)[i * size + j]? = (E l[i])[j]?
  | [], i, h, _, _ => absurd h (by simp)
  | a :: l, 0, _, j, hj => by
    rw [List.flatMap_cons, Nat.zero_mul, Nat.zero_add, List.getElem?_append_left (by rw [hE]; exact hj)]; rfl
  | a :: l, i + 1, h, j, hj => by
    rw [List.flatMap_cons, List.getElem?_append_right (by rw [hE, Nat.add_mul]; omega), hE]
    have := flat_get hE l i (by simpa using h) j hj
    rw [show (i + 1) * size + j - size = i * size + j by rw [Nat.add_mul]; omega, this]
    rfl
theorem flat_len {α β : Type} {E : α → List β} {size : Nat} (hE : ∀ x, (E x).length = size) : ∀ l : List α, (l.flatMap E).length = l.length * size
  | [] => by simp
  | a :: l => by rw [List.flatMap_cons, List.length_append, hE, flat_len hE l, List.length_cons, Nat.add_mul]; omega
theorem SlV.of_own {w : World} {base : Nat} {e : TypeId} {size n : Nat} {v : Value} {α : Type} {E : α → List Value} {l : List α} (h : w.ownsRow base e size v n (l.flatMap E)) (hE : ∀ x, (E x).length = size) (hs : 0 < size) : SlV w size E v l := by
  have hn : l.length = n := by
    have := h.1
    rw [flat_len hE] at this
    exact Nat.eq_of_mul_eq_mul_right hs this
  subst hn
  rcases h.2 with ⟨rfl, h0⟩ | ⟨g, cap, cur, rfl, hb, hh, hc, hm, hsz, hx⟩
  · refine ⟨none, 0, by rw [h0], by omega, by simp [maxLen], fun hp => by omega⟩
  · refine ⟨_, cap, rfl, hc, hm, fun hp => ⟨g, 0, rfl, (Array.getElem?_eq_some_iff.1 hh).1, fun i hi j hj => ?_⟩⟩
    have hlt : i * size + j < l.length * size := by
      have : (i + 1) * size ≤ l.length * size := Nat.mul_le_mul_right size hi
      rw [Nat.add_mul] at this
      omega
    rw [cell_of_row w g _ cur e (0, 0) hh, Nat.zero_add, ← flat_get hE l i hi j hj, ← hx, List.getElem?_take, if_pos hlt, Array.getElem?_toList]
theorem SlV.below {w w' : World} {size B : Nat} {α : Type} {E : α → List Value} {v : Value} {l : List α} (h : SlV w size E v l) (hb : Below B w w') (hB : w.heap.size ≤ B) : SlV w' size E v l := by
  obtain ⟨A, c, rfl, h1, h2, h3⟩ := h
  exact ⟨A, c, rfl, h1, h2, h3.below hb hB⟩
section
open Go.ChangeShapes Go.WideShapes Go.Deep
variable {H : Type} {enc : TypeId × Value → H} {P : Program} {w : World}
end
/-- the block that was made second -/
theorem blk_snd (w : World) (o : Obj) (c : Array Value) (t : TypeId) : Blk ((w.alloc o).alloc (.cells c t)) (w.heap.size + 1) t c := by
  have h := Blk.new (w.alloc o) t c
  rw [World.size_alloc] at h
  exact h
theorem blk_trd (w : World) (o p : Obj) (c : Array Value) (t : TypeId) : Blk (((w.alloc o).alloc p).alloc (.cells c t)) (w.heap.size + 1 + 1) t c := by
  have h := blk_snd (w.alloc o) p c t
  rw [World.size_alloc] at h
  exact h
theorem blk_mid (w : World) (o : Obj) (c : Array Value) (t : TypeId) (p : Obj) : Blk (((w.alloc o).alloc (.cells c t)).alloc p) (w.heap.size + 1) t c := (blk_snd w o c t).alloc p
/-- the block that was made first -/
theorem blk_fst (w : World) (c : Array Value) (t : TypeId) (o : Obj) : Blk ((w.alloc (.cells c t)).alloc o) w.heap.size t c := (Blk.new w t c).alloc _
end Sw
