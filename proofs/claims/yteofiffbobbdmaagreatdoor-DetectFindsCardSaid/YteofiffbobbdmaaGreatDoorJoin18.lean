/- Several texts, joined for the limit of sixty files; each one opens with its own comment. -/
import Derived.Test.YteofiffbobbdmaaGreatDoorJoin17
import Derived.Test.YteofiffbobbdmaaGreatDoorJoin16
import Derived.Test.YteofiffbobbdmaaGreatDoorJoin13
import Derived.Test.YteofiffbobbdmaaGreatDoorJoin14
import Derived.StillTailTactics
import Derived.Test.YteofiffbobbdmaaGreatDoorJoin15
import Derived.Test.YteofiffbobbdmaaGreatDoorJoin8
import Derived.Test.YteofiffbobbdmaaGreatDoorChecked
import Derived.Test.YteofiffbobbdmaaGreatDoorJoin10
import Derived.Test.YteofiffbobbdmaaGreatDoorJoin5
import Derived.RegionTactic
import Derived.BigRegion
import Derived.Deep.RegionLaw
/- The reference's Fine, of a print: it answers. -/
set_option linter.unusedVariables false
set_option linter.unusedSimpArgs false
namespace Go.Proofs.YteofiffbobbdmaaGreatDoor
open Go Go.RowKit
open Sw
set_option maxRecDepth 100000 in
set_option maxHeartbeats 4000000 in
theorem refFine_any (w : World) (p : Pr) (ht0 : 0 ≤ p.time) (ht1 : p.time < 4294967296) :
    Calls Tryz.prog 95 #[.agg p.c] w fun e w' => ∃ R : Bool, e = .returned (.bool R) ∧ Below w.heap.size w w' := by
  obtain ⟨kd, md, tm, sz, sm⟩ := p
  simp only at ht0 ht1
  have hb0 := (Below.refl w.heap.size w).alloc (Nat.le_refl _) (.cells #[.int .i64 kd, .int .i64 md, .int .u32 tm, .int .i64 sz, .int .u32 sm] 75)
  have hB0 := Blk.new w 75 #[.int .i64 kd, .int .i64 md, .int .u32 tm, .int .i64 sz, .int .u32 sm]
  have HB := Lib.hid (And.intro hb0 hB0); clear hb0 hB0
  have HT := Lib.hid (fun W => refTime_any W tm ht0 ht1)
  clear ht0 ht1
  generalize decide (splitD tm).Ok = ok at HT
  unfold Pr.c
  by_cases a1 : kd < 0
  · go_enter Tryz.func95, Tryz.ntmps95
    go_wp2_with fail
    go_ret
    first | exact HB.out.1 | exact ⟨.inl rfl, HB.out.1⟩ | exact ⟨.inr rfl, HB.out.1⟩ | exact ⟨_, rfl, HB.out.1⟩
  by_cases a2 : 2 < kd
  · go_enter Tryz.func95, Tryz.ntmps95
    go_wp2_with fail
    go_ret
    first | exact HB.out.1 | exact ⟨.inl rfl, HB.out.1⟩ | exact ⟨.inr rfl, HB.out.1⟩ | exact ⟨_, rfl, HB.out.1⟩
  by_cases a3 : md < 0
  · go_enter Tryz.func95, Tryz.ntmps95
    go_wp2_with fail
    go_ret
    first | exact HB.out.1 | exact ⟨.inl rfl, HB.out.1⟩ | exact ⟨.inr rfl, HB.out.1⟩ | exact ⟨_, rfl, HB.out.1⟩
  by_cases a4 : 511 < md
  · go_enter Tryz.func95, Tryz.ntmps95
    go_wp2_with fail
    go_ret
    first | exact HB.out.1 | exact ⟨.inl rfl, HB.out.1⟩ | exact ⟨.inr rfl, HB.out.1⟩ | exact ⟨_, rfl, HB.out.1⟩
  by_cases a5 : sz < 0
  · go_enter Tryz.func95, Tryz.ntmps95
    go_wp2_with fail
    go_ret
    first | exact HB.out.1 | exact ⟨.inl rfl, HB.out.1⟩ | exact ⟨.inr rfl, HB.out.1⟩ | exact ⟨_, rfl, HB.out.1⟩
  by_cases a6 : 65000 < sz
  · go_enter Tryz.func95, Tryz.ntmps95
    go_wp2_with fail
    go_ret
    first | exact HB.out.1 | exact ⟨.inl rfl, HB.out.1⟩ | exact ⟨.inr rfl, HB.out.1⟩ | exact ⟨_, rfl, HB.out.1⟩
  by_cases k1 : kd = 1
  · subst k1
    cases ok with
    | false =>
      go_enter Tryz.func95, Tryz.ntmps95
      go_wp2_with fail
      refine (HT.out _).mono ?_
      rintro e w1 ⟨rfl, hb1⟩
      have H1 := Lib.hid (HB.out.1.trans (hb1.mono HB.out.1.size)); clear hb1
      go_wp2_with fail
      go_ret
      first | exact H1.out | exact ⟨.inl rfl, H1.out⟩ | exact ⟨.inr rfl, H1.out⟩ | exact ⟨_, rfl, H1.out⟩
    | true =>
      by_cases z : sz = 0
      · subst z
        go_enter Tryz.func95, Tryz.ntmps95
        go_wp2_with fail
        refine (HT.out _).mono ?_
        rintro e w1 ⟨rfl, hb1⟩
        have x3 := (HB.out.2.below hb1 HB.out.2.lt).cell 3
        have x4 := (HB.out.2.below hb1 HB.out.2.lt).cell 4
        simp at x3 x4
        have H1 := Lib.hid (HB.out.1.trans (hb1.mono HB.out.1.size)); clear hb1
        go_wp2_with fail
        go_ret
        first | exact H1.out | exact ⟨.inl rfl, H1.out⟩ | exact ⟨.inr rfl, H1.out⟩ | exact ⟨_, rfl, H1.out⟩
      · have ez : (sz == 0) = false := by rw [beq_eq_false_iff_ne]; exact z
        go_enter Tryz.func95, Tryz.ntmps95
        go_wp2_with fail
        refine (HT.out _).mono ?_
        rintro e w1 ⟨rfl, hb1⟩
        have x3 := (HB.out.2.below hb1 HB.out.2.lt).cell 3
        have x4 := (HB.out.2.below hb1 HB.out.2.lt).cell 4
        simp at x3 x4
        have H1 := Lib.hid (HB.out.1.trans (hb1.mono HB.out.1.size)); clear hb1
        go_wp2_with fail
        go_ret
        first | exact H1.out | exact ⟨.inl rfl, H1.out⟩ | exact ⟨.inr rfl, H1.out⟩ | exact ⟨_, rfl, H1.out⟩
  · have e1 : (kd == 1) = false := by rw [beq_eq_false_iff_ne]; exact k1
    obtain ⟨q1, hq1⟩ : ∃ q, (tm == 0) = q := ⟨_, rfl⟩
    obtain ⟨q2, hq2⟩ : ∃ q, (sz == 0) = q := ⟨_, rfl⟩
    obtain ⟨q3, hq3⟩ : ∃ q, (sm == 0) = q := ⟨_, rfl⟩
    obtain ⟨q4, hq4⟩ : ∃ q, (kd == 2) = q := ⟨_, rfl⟩
    obtain ⟨q5, hq5⟩ : ∃ q, (md == 0) = q := ⟨_, rfl⟩
    cases q1
    · go_enter Tryz.func95, Tryz.ntmps95
      go_wp2_with fail
      go_ret
      first | exact HB.out.1 | exact ⟨.inl rfl, HB.out.1⟩ | exact ⟨.inr rfl, HB.out.1⟩ | exact ⟨_, rfl, HB.out.1⟩
    cases q2
    · go_enter Tryz.func95, Tryz.ntmps95
      go_wp2_with fail
      go_ret
      first | exact HB.out.1 | exact ⟨.inl rfl, HB.out.1⟩ | exact ⟨.inr rfl, HB.out.1⟩ | exact ⟨_, rfl, HB.out.1⟩
    cases q3
    · go_enter Tryz.func95, Tryz.ntmps95
      go_wp2_with fail
      go_ret
      first | exact HB.out.1 | exact ⟨.inl rfl, HB.out.1⟩ | exact ⟨.inr rfl, HB.out.1⟩ | exact ⟨_, rfl, HB.out.1⟩
    cases q4 <;> cases q5
    all_goals
      go_enter Tryz.func95, Tryz.ntmps95
      go_wp2_with fail
      go_ret
      first | exact HB.out.1 | exact ⟨.inl rfl, HB.out.1⟩ | exact ⟨.inr rfl, HB.out.1⟩ | exact ⟨_, rfl, HB.out.1⟩
end Go.Proofs.YteofiffbobbdmaaGreatDoor
/- tree.All. -/
set_option linter.unusedVariables false
set_option linter.unusedSimpArgs false
namespace Go.Proofs.YteofiffbobbdmaaGreatDoor
open Go Go.RowKit
open Sw
set_option maxRecDepth 100000 in
theorem treeAll_any (w : World) (bt bm : Nat) (xs : List NE) (h : TreeAt w bt bm xs) :
    Calls Tryz.prog 44 #[.pointer (some ⟨bt, 0, none⟩)] w (SeqOfSN xs w) := by
  have HL := Lib.hid (srtAllSN_any w bm xs h.map)
  have c0 := h.box.cell 0
  simp at c0
  clear h
  go_enter Tryz.func44, Tryz.ntmps44
  go_wp2_with fail
  refine HL.out.mono ?_
  rintro e w1 ⟨gb, v, rfl, h1, h2, h3, h4, h5⟩
  have HF := Lib.hid (⟨gb, v, rfl, h1, h2, h3, h4, h5⟩ : SeqOfSN xs w (.returned (.func (.func 150) #[] #[.pointer (some ⟨gb, 0, none⟩)])) w1)
  clear h1 h2 h3 h4 h5 HL
  go_wp2_with fail
  go_ret
  exact HF.out
end Go.Proofs.YteofiffbobbdmaaGreatDoor
/- tree.Bytes. -/
set_option linter.unusedVariables false
set_option linter.unusedSimpArgs false
namespace Go.Proofs.YteofiffbobbdmaaGreatDoor
open Go Go.RowKit Go.Shelf
open Sw
attribute [local go_sem] Oper.semAt_some
theorem res_cellI {P : Program} {fn : Func} {p : Tmp} {ty : TypeId} (h : fn.results = #[.cell p ty]) (tmps : Array Value) (w : World) (g : Nat) (t : TypeId) (v : Value)
    (hp : tmps.getD p undef = .pointer (some ⟨g, 0, none⟩)) (hg : Blk w g t #[v]) (hu : P.underlying ty = some (.int .i64)) : (results fn tmps).run P w = .ok v w := by
  have hp' : tmps[p]?.getD undef = .pointer (some ⟨g, 0, none⟩) := by simpa using hp
  have hc : w.cell? ⟨g, 0, none⟩ = some v := by have := hg.cell 0; simpa using this
  simp [results, h, hp', asAddr, loadVar, isAgg, run_underlying hu, run_load, hc]
/-- the bytes of the entries' data -/
def bytesT (xs : List NE) : Nat := (xs.map fun e => e.2.data.size).sum
theorem bytesT_app (a b : List NE) : bytesT (a ++ b) = bytesT a + bytesT b := by unfold bytesT; rw [List.map_append, List.sum_append]
theorem bytesT_pre {a xs : List NE} (h : a <+: xs) : bytesT a ≤ bytesT xs := by
  obtain ⟨r, rfl⟩ := h
  rw [bytesT_app]
  omega
def ByI (T M : Nat) (pre : List NE) (W : World) : Prop := Blk W T 3 #[.int .i64 (bytesT pre)] ∧ M ≤ W.heap.size
theorem ByI.own (T M : Nat) : Own (ByI T M) := fun _ A B row hs hg hr => ⟨blk_ownF hs.1 hg hr, Nat.le_trans hs.2 hg.size⟩
end Go.Proofs.YteofiffbobbdmaaGreatDoor
/- The reference's rows of items: Without. -/
set_option linter.unusedVariables false
set_option linter.unusedSimpArgs false
namespace Go.Proofs.YteofiffbobbdmaaGreatDoor
open Go Go.RowKit
open Sw
theorem itC_one (e : NE) : ∀ u ∈ eCSN e, u.oneCell' = true := eCSN_one e
/-- an item is appended to a row of items -/
theorem OwnIt.app {w' : World} {base g cap n : Nat} {l : List NE} {x : NE} (h : w'.ownsRow base 53 5 (.slice (some ⟨g, 0, none⟩) (n + 1) cap) (n + 1) (l.flatMap eCSN ++ [.string x.1, .int .i64 x.2.kind, .int .i64 x.2.mode, .int .u32 x.2.time, .string x.2.data])) (hn : l.length = n) : OwnIt w' base (.slice (some ⟨g, 0, none⟩) (n + 1) cap) (l ++ [x]) := by
  unfold OwnIt
  rw [List.length_append, List.length_singleton, hn, List.flatMap_append]
  simpa [eCSN] using h
end Go.Proofs.YteofiffbobbdmaaGreatDoor
/- tree.Items. -/
set_option linter.unusedVariables false
set_option linter.unusedSimpArgs false
namespace Go.Proofs.YteofiffbobbdmaaGreatDoor
open Go Go.RowKit Go.Shelf
open Sw
attribute [local go_sem] Oper.semAt_some
/-- behind some words: the row in the box holds them, and the iterator lies as it lay -/
def ItI (T gb : Nat) (v : Value) (xs : List NE) (pre : List NE) (W : World) : Prop := gb < W.heap.size ∧ (∃ o, Blk W T 25 #[o] ∧ OwnIt W T o pre) ∧ Blk W gb 149 #[v] ∧ Lies W 152 5 eCSN v xs
theorem ItI.own (T gb : Nat) (v : Value) (xs : List NE) : Own (ItI T gb v xs) := fun _ A B row hs hg hr => ⟨Nat.lt_of_lt_of_le hs.1 hg.size, by obtain ⟨o, h1, h2⟩ := hs.2.1; exact ⟨o, blk_ownF h1 hg hr, own_ownF h2 hg hr⟩, blk_ownF hs.2.2.1 hg hr, hs.2.2.2.ownF hg hr⟩
theorem ItI.below {T gb : Nat} {v : Value} {xs pre : List NE} {A B : World} (hs : ItI T gb v xs pre A) (hb : Below A.heap.size A B) : ItI T gb v xs pre B := ⟨Nat.lt_of_lt_of_le hs.1 hb.size, by obtain ⟨o, h1, h2⟩ := hs.2.1; exact ⟨o, h1.below hb h1.lt, h2.below hb⟩, hs.2.2.1.below hb hs.2.2.1.lt, hs.2.2.2.below hb⟩
end Go.Proofs.YteofiffbobbdmaaGreatDoor
/- tree.Under$1: what Under leaves out. -/
set_option linter.unusedVariables false
set_option linter.unusedSimpArgs false
namespace Go.Proofs.YteofiffbobbdmaaGreatDoor
open Go Go.RowKit
open Sw
/-- is an entry neither at a path nor under it? -/
def awayT (p : ByteArray) (x : NE) : Bool := !decide (x.1 = p) && !inS (upsS x.1) p
end Go.Proofs.YteofiffbobbdmaaGreatDoor
/- slices.Clone of a row of api.Item: the same elements, in memory of the call's own. -/
set_option linter.unusedVariables false
set_option linter.unusedSimpArgs false
namespace Go.Proofs.YteofiffbobbdmaaGreatDoor
open Go Go.RowKit
open Sw
theorem infoEIT : (Tryz.prog.info? 53).map (fun i => (i.zero, i.size, i.bytes)) = some (some (.agg #[.string ⟨#[]⟩, .int .i64 0, .int .i64 0, .int .u32 0, .string ⟨#[]⟩]), 5, 56) := by kernel_rfl
end Go.Proofs.YteofiffbobbdmaaGreatDoor
/- sorted.Map[string,swingle/api.Node]: what a map holds; find. -/
set_option linter.unusedVariables false
set_option linter.unusedSimpArgs false
namespace Go.Proofs.YteofiffbobbdmaaGreatDoor
open Go Go.RowKit
open Sw
/-- an entry's cells -/
def eCIT (e : ByteArray × Nd) : List Value := [.string e.1, .int .i64 e.2.kind, .int .i64 e.2.mode, .int .u32 e.2.time, .string e.2.data]
theorem eCIT_len (e : ByteArray × Nd) : (eCIT e).length = 5 := rfl
theorem eCIT_one (e : ByteArray × Nd) : ∀ u ∈ eCIT e, u.oneCell' = true := by
  intro u hu
  simp only [eCIT, List.mem_cons, List.mem_append, List.not_mem_nil, or_false] at hu
  rcases hu with rfl | rfl | rfl | rfl | rfl <;> rfl
abbrev ordFIT : Value := .func (.func 41) #[] #[]
/-- the map in block bm holds the entries xs -/
structure SMapIT (w : World) (bm : Nat) (xs : List (ByteArray × Nd)) : Prop where
  row : ∃ v, Blk w bm 155 #[ordFIT, v] ∧ w.ownsRow 0 53 5 v xs.length (xs.flatMap eCIT)
  up : Up ordS xs
  ok : ∀ e ∈ xs, okS e.1
end Go.Proofs.YteofiffbobbdmaaGreatDoor
/- slices.Reverse of a row of api.Item that the call owns. -/
set_option linter.unusedVariables false
set_option linter.unusedSimpArgs false
namespace Go.Proofs.YteofiffbobbdmaaGreatDoor
open Go Go.RowKit
open Sw
end Go.Proofs.YteofiffbobbdmaaGreatDoor
/- slices.Insert of one element into a row of api.Item that the call owns. -/
set_option linter.unusedVariables false
set_option linter.unusedSimpArgs false
namespace Go.Proofs.YteofiffbobbdmaaGreatDoor
open Go Go.RowKit
open Sw
/-- behind the call: a row with one more element -/
def InsPostIT (base n : Nat) (xs : List Value) (row : Option Nat) (w : World) (e : Ending) (w' : World) : Prop :=
  ∃ g cap, e = .returned (.slice (some ⟨g, 0, none⟩) (n + 1) cap) ∧ w'.ownsRow base 53 5 (.slice (some ⟨g, 0, none⟩) (n + 1) cap) (n + 1) xs ∧ w.grownBy w' row ∧ (row = some g ∨ w.heap.size ≤ g)
end Go.Proofs.YteofiffbobbdmaaGreatDoor
/- slices.Delete of one element out of a row of api.Item that the call owns. -/
set_option linter.unusedVariables false
set_option linter.unusedSimpArgs false
namespace Go.Proofs.YteofiffbobbdmaaGreatDoor
open Go Go.RowKit
open Sw
/-- behind the call: a row with one element less -/
def DelPostIT (base n : Nat) (xs : List Value) (row : Option Nat) (w : World) (e : Ending) (w' : World) : Prop :=
  ∃ v, e = .returned v ∧ w'.ownsRow base 53 5 v n xs ∧ w.grownBy w' row ∧ v.ownBlock = row
end Go.Proofs.YteofiffbobbdmaaGreatDoor
/- slices.IndexFunc and slices.DeleteFunc of a row of api.Item that the call owns; the predicate is (*swingle/tree.Tree).Under$1. -/
set_option linter.unusedVariables false
set_option linter.unusedSimpArgs false
namespace Go.Proofs.YteofiffbobbdmaaGreatDoor
open Go Go.RowKit
open Sw
def IdxPostIT {α : Type} (p : α → Bool) (l : List α) (w : World) (e : Ending) (w' : World) : Prop :=
  ((∃ i : Nat, ∃ h : i < l.length, (∀ m (h : m < l.length), m < i → p l[m] = false) ∧ p l[i] = true ∧ e = .returned (.int .i64 i)) ∨ ((∀ x ∈ l, p x = false) ∧ e = .returned (.int .i64 (-1)))) ∧ Below w.heap.size w w'
/-- behind the call: the row of those that stay -/
def DelFPostIT (base : Nat) (l : List (ByteArray × Nd)) (row : Option Nat) (w : World) (e : Ending) (w' : World) : Prop :=
  ∃ v, e = .returned v ∧ w'.ownsRow base 53 5 v l.length (l.flatMap eCIT) ∧ w.grownBy w' row ∧ v.ownBlock = row
end Go.Proofs.YteofiffbobbdmaaGreatDoor
/- tree.Under. -/
set_option linter.unusedVariables false
set_option linter.unusedSimpArgs false
namespace Go.Proofs.YteofiffbobbdmaaGreatDoor
open Go Go.RowKit
open Sw
/-- what stands at a path and under it -/
def undT (p : ByteArray) (xs : List NE) : List NE := xs.filter fun x => !awayT p x
end Go.Proofs.YteofiffbobbdmaaGreatDoor
/- A tree's rows: what always holds of them, and what a path's clearing leaves; plain. -/
set_option linter.unusedVariables false
set_option linter.unusedSimpArgs false
namespace Sw
open Go
open Go.Proofs.YteofiffbobbdmaaGreatDoor (partsS awayT undT)
/-- what holds of a tree's entries -/
structure TI (xs : List NE) : Prop where
  up : Up ordS xs
  paths : Paths xs
  nod : ∀ e ∈ xs, ¬ e.2.kind = 0 ∧ nodeR e.2 = 0
  par : ∀ e ∈ xs, ∀ u ∈ upsS e.1, ∃ d ∈ xs, d.1 = u ∧ d.2.kind = 2
theorem TI.nil : TI [] := ⟨List.Pairwise.nil, fun _ h => absurd h (by simp), fun _ h => absurd h (by simp), fun _ h => absurd h (by simp)⟩
theorem up_key {xs : List NE} (hu : Up ordS xs) {a b : NE} (ha : a ∈ xs) (hb : b ∈ xs) (h : a.1 = b.1) : a = b := by
  induction xs with
  | nil => cases ha
  | cons x xs ih =>
    have hself : ∀ y ∈ xs, ¬ y.1 = x.1 := fun y hy e => by
      have := hu.head y hy
      rw [e, ordS_refl] at this
      omega
    rcases List.mem_cons.1 ha with rfl | ha
    · rcases List.mem_cons.1 hb with rfl | hb
      · rfl
      · exact absurd h.symm (hself b hb)
    · rcases List.mem_cons.1 hb with hbx | hb
      · exact absurd (h.trans (by rw [hbx])) (hself _ ha)
      · exact ih hu.tail ha hb
theorem getT_in {xs : List NE} (hu : Up ordS xs) {e : NE} (h : e ∈ xs) : getT xs e.1 = e.2 := by
  unfold getT
  rw [get_find ordS_ord e.1 xs hu]
  cases hf : xs.find? (fun x => decide (ordS x.1 e.1 = 0)) with
  | none =>
    have := List.find?_eq_none.1 hf e h
    simp [ordS_refl] at this
  | some x =>
    have h0 : ordS x.1 e.1 = 0 := by have := List.find?_some hf; simpa using this
    rw [up_key hu (List.mem_of_find?_eq_some hf) h (ordS_zero h0)]
    rfl
theorem getT_out {xs : List NE} (hu : Up ordS xs) {p : ByteArray} (h : ∀ e ∈ xs, ¬ e.1 = p) : getT xs p = ndZ := by
  unfold getT
  rw [get_find ordS_ord p xs hu, List.find?_eq_none.2 (fun e he => by have := h e he; simp [ordS_ord.iff, this])]
  rfl
theorem getT_kind {xs : List NE} (hu : Up ordS xs) {p : ByteArray} (h : ¬ (getT xs p).kind = 0) : (p, getT xs p) ∈ xs := by
  rcases Classical.em (∃ e ∈ xs, e.1 = p) with ⟨e, he, rfl⟩ | hn
  · rw [getT_in hu he]; exact he
  · rw [getT_out hu (fun e he h => hn ⟨e, he, h⟩)] at h
    exact absurd rfl h
theorem put_iff {xs : List NE} (hu : Up ordS xs) (p : ByteArray) (n : Nd) (e : NE) : e ∈ putN ordS p n xs ↔ e = (p, n) ∨ (e ∈ xs ∧ ¬ e.1 = p) := by
  rw [put_filter ordS_ord p n xs hu]
  simp only [List.mem_append, List.mem_filter, List.mem_cons, decide_eq_true_eq]
  have h3 := ordS_three e.1 p
  constructor
  · rintro (⟨h, hk⟩ | rfl | ⟨h, hk⟩)
    · exact .inr ⟨h, fun e' => by rw [e', ordS_refl] at hk; omega⟩
    · exact .inl rfl
    · exact .inr ⟨h, fun e' => by rw [e', ordS_refl] at hk; omega⟩
  · rintro (rfl | ⟨h, hk⟩)
    · exact .inr (.inl rfl)
    · rcases h3 with h3 | h3 | h3
      · exact .inl ⟨h, by omega⟩
      · exact absurd (ordS_zero h3) hk
      · exact .inr (.inr ⟨h, by omega⟩)
theorem drop_iff {xs : List NE} (hu : Up ordS xs) (p : ByteArray) (e : NE) : e ∈ dropN ordS p xs ↔ e ∈ xs ∧ ¬ e.1 = p := by
  rw [drop_filter ordS_ord p xs hu]
  simp [List.mem_filter, ordS_ord.iff]
/-- the ups of a path: its parent, and the parent's -/
theorem ups_parent {p u : ByteArray} (h : u ∈ upsS p) : ¬ parentS p = ⟨#[]⟩ ∧ parentS p ∈ upsS p ∧ (u = parentS p ∨ u ∈ upsS (parentS p)) := by
  rcases parent_last p with ⟨h0, _⟩ | ⟨hne, hl, hp⟩
  · rw [h0] at h; cases h
  · have hmem : parentS p ∈ upsS p := by rw [← hl]; exact List.getLast_mem hne
    refine ⟨hp, hmem, ?_⟩
    obtain ⟨k, hk1, hk2, hk3, hkr⟩ := ups_mem h
    obtain ⟨m, hm1, hm2, hm3, hmr⟩ := ups_mem hmem
    have hlen := upsS_len p
    have hm : partsS (parentS p) = (partsS p).take ((partsS p).length - 1) := by
      rw [← hl, List.getLast_eq_getElem]
      have hlt : (upsS p).length - 1 < (upsS p).length := by have := List.length_pos_iff.2 hne; omega
      have := ups_step p ((upsS p).length - 1) hlt
      rw [upsS_at p _ hlt]
      have hr : rightL p.data.toList = true := by
        cases hr : rightL p.data.toList with
        | true => rfl
        | false => rw [partsS_not hr] at hk2; simp at hk2
      rw [show (upsS p).length - 1 + 1 = (partsS p).length - 1 by have := List.length_pos_iff.2 hne; omega]
      rw [partsS_right hr] at hk2 ⊢
      have ht := right_take hr ((spS p).length - 1) (by omega)
      rw [partsS_right (by rw [data_mkB]; exact ht.1)]
      exact ht.2
    by_cases hkk : k = (partsS p).length - 1
    · left
      refine parts_inj (by rw [hk3, hm, hkk]) (by rw [hk3, List.length_take]; omega)
    · right
      refine ups_of (k := k) hk1 (by rw [hm, List.length_take]; omega) ?_
      rw [hk3, hm, List.take_take, Nat.min_eq_left (by omega)]
theorem ups_trans {u v p : ByteArray} (h1 : u ∈ upsS v) (h2 : v ∈ upsS p) : u ∈ upsS p := by
  obtain ⟨k, hk1, hk2, hk3, _⟩ := ups_mem h1
  obtain ⟨m, hm1, hm2, hm3, _⟩ := ups_mem h2
  rw [hm3, List.length_take] at hk2
  exact ups_of (k := k) hk1 (by omega) (by rw [hk3, hm3, List.take_take, Nat.min_eq_left (by omega)])
theorem ups_self {p : ByteArray} : ¬ p ∈ upsS p := fun h => by
  have := ups_order h
  rw [ordS_refl] at this
  omega
theorem away_iff (p : ByteArray) (e : NE) : awayT p e = true ↔ ¬ e.1 = p ∧ ¬ p ∈ upsS e.1 := by
  unfold Go.Proofs.YteofiffbobbdmaaGreatDoor.awayT
  rw [Bool.and_eq_true, Bool.not_eq_true', Bool.not_eq_true', decide_eq_false_iff_not, ← inS_iff]
  simp
/-- nothing is under a path that holds says so of -/
theorem holds_not {xs : List NE} (hu : Up ordS xs) (hp : Paths xs) {p : ByteArray} (h : holdsT xs p = false) : ∀ e ∈ xs, ¬ p ∈ upsS e.1 := fun e he hq => by
  rw [holds_any xs p hu hp, List.any_eq_false] at h
  exact h e he ((inS_iff _ _).2 hq)
theorem holds_no {xs : List NE} (hu : Up ordS xs) (hp : Paths xs) {p : ByteArray} (h : ∀ e ∈ xs, ¬ p ∈ upsS e.1) : holdsT xs p = false := by
  rw [holds_any xs p hu hp, List.any_eq_false]
  exact fun e he hq => h e he ((inS_iff _ _).1 hq)
/-- what may's answer 0 says -/
theorem may_zero {xs : List NE} {p : ByteArray} {n : Nd} (h : mayT xs p n = 0) : rightL p.data.toList = true ∧ ¬ n.kind = 0 ∧ nodeR n = 0 ∧ parentT xs p = 0 ∧ (n.kind = 2 ∨ holdsT xs p = false) ∧ ((getT xs p).kind = 0 → xs.length < 500) := by
  unfold mayT at h
  cases hr : rightL p.data.toList with
  | false => rw [if_pos hr] at h; cases h
  | true =>
    rw [if_neg (by rw [hr]; simp)] at h
    by_cases h0 : n.kind = 0
    · rw [if_pos h0] at h; cases h
    · rw [if_neg h0] at h
      by_cases h1 : nodeR n = 0
      · rw [if_neg (by simpa using h1)] at h
        by_cases h2 : parentT xs p = 0
        · rw [if_neg (by simpa using h2)] at h
          by_cases h3 : ¬ n.kind = 2 ∧ holdsT xs p = true
          · rw [if_pos h3] at h; cases h
          · rw [if_neg h3] at h
            by_cases h4 : (getT xs p).kind = 0 ∧ 500 ≤ xs.length
            · rw [if_pos h4] at h; cases h
            · refine ⟨rfl, h0, h1, h2, ?_, fun hk => by have := fun hl => h4 ⟨hk, hl⟩; omega⟩
              rcases Classical.em (n.kind = 2) with hk | hk
              · exact .inl hk
              · right
                cases hh : holdsT xs p with
                | false => rfl
                | true => exact absurd ⟨hk, hh⟩ h3
        · rw [if_pos h2] at h; exact absurd h h2
      · rw [if_pos h1] at h; exact absurd h h1
theorem may_of {xs : List NE} {p : ByteArray} {n : Nd} (h1 : rightL p.data.toList = true) (h2 : ¬ n.kind = 0) (h3 : nodeR n = 0) (h4 : parentT xs p = 0) (h5 : n.kind = 2 ∨ holdsT xs p = false) (h6 : (getT xs p).kind = 0 → xs.length < 500) : mayT xs p n = 0 := by
  unfold mayT
  rw [if_neg (by rw [h1]; simp), if_neg h2, if_neg (by simpa using h3), if_neg (by simpa using h4), if_neg (by rcases h5 with h | h <;> simp [h]), if_neg (fun h => by have := h6 h.1; omega)]
theorem parentT_zero {xs : List NE} {p : ByteArray} (h : parentT xs p = 0) : parentS p = ⟨#[]⟩ ∨ (getT xs (parentS p)).kind = 2 := by
  unfold parentT at h
  by_cases h0 : parentS p = ⟨#[]⟩
  · exact .inl h0
  · rw [if_neg h0] at h
    by_cases h1 : (getT xs (parentS p)).kind = 0
    · rw [if_pos h1] at h; cases h
    · rw [if_neg h1] at h
      by_cases h2 : (getT xs (parentS p)).kind = 2
      · exact .inr h2
      · rw [if_neg h2] at h; cases h
theorem parentT_of {xs : List NE} {p : ByteArray} (h : parentS p = ⟨#[]⟩ ∨ (getT xs (parentS p)).kind = 2) : parentT xs p = 0 := by
  unfold parentT
  rcases h with h | h
  · rw [if_pos h]
  · by_cases h0 : parentS p = ⟨#[]⟩
    · rw [if_pos h0]
    · rw [if_neg h0, if_neg (by rw [h]; decide), if_pos h]
theorem TI.putN {xs : List NE} (h : TI xs) {p : ByteArray} {n : Nd} (hm : mayT xs p n = 0) : TI (putN ordS p n xs) := by
  obtain ⟨m1, m2, m3, m4, m5, _⟩ := may_zero hm
  refine ⟨put_up ordS_ord p n xs h.up, h.paths.put m1 n, fun e he => ?_, fun e he u hu => ?_⟩
  · rcases (put_iff h.up p n e).1 he with rfl | ⟨he, _⟩
    · exact ⟨m2, m3⟩
    · exact h.nod e he
  · rcases (put_iff h.up p n e).1 he with rfl | ⟨he, hep⟩
    · obtain ⟨hne, hmem, hor⟩ := ups_parent hu
      have hk : (getT xs (parentS p)).kind = 2 := (parentT_zero m4).resolve_left hne
      have hd := getT_kind h.up (p := parentS p) (by rw [hk]; decide)
      have hpp : ¬ parentS p = p := fun e => ups_self (p := p) (by rw [e] at hmem; exact hmem)
      rcases hor with rfl | hor
      · exact ⟨_, (put_iff h.up p n _).2 (.inr ⟨hd, hpp⟩), rfl, hk⟩
      · obtain ⟨d, hd1, rfl, hd3⟩ := h.par _ hd u hor
        exact ⟨d, (put_iff h.up p n _).2 (.inr ⟨hd1, fun e => ups_self (e ▸ hu : p ∈ upsS p)⟩), rfl, hd3⟩
    · obtain ⟨d, hd1, rfl, hd3⟩ := h.par e he u hu
      by_cases hdp : d.1 = p
      · rcases m5 with hk | hh
        · exact ⟨(p, n), (put_iff h.up p n _).2 (.inl rfl), hdp.symm, hk⟩
        · exact absurd (hdp ▸ hu) (holds_not h.up h.paths hh e he)
      · exact ⟨d, (put_iff h.up p n _).2 (.inr ⟨hd1, hdp⟩), rfl, hd3⟩
theorem TI.putT {xs : List NE} (h : TI xs) (p : ByteArray) (n : Nd) : TI (putT xs p n) := by
  unfold Sw.putT
  split
  · rename_i hm; exact h.putN hm
  · exact h
theorem TI.dropT {xs : List NE} (h : TI xs) (p : ByteArray) : TI (dropT xs p) := by
  unfold Sw.dropT
  split
  · rename_i hm
    have hh : holdsT xs p = false := by
      unfold whyDrop at hm
      cases hh : holdsT xs p with
      | false => rfl
      | true =>
        by_cases h0 : (getT xs p).kind = 0
        · rw [if_pos h0] at hm; cases hm
        · rw [if_neg h0, if_pos hh] at hm; cases hm
    refine ⟨drop_up ordS_ord p xs h.up, fun e he => h.paths e ((drop_iff h.up p e).1 he).1, fun e he => h.nod e ((drop_iff h.up p e).1 he).1, fun e he u hu => ?_⟩
    obtain ⟨d, hd1, rfl, hd3⟩ := h.par e ((drop_iff h.up p e).1 he).1 u hu
    refine ⟨d, (drop_iff h.up p d).2 ⟨hd1, fun e' => ?_⟩, rfl, hd3⟩
    exact holds_not h.up h.paths hh e ((drop_iff h.up p e).1 he).1 (e' ▸ hu)
  · exact h
theorem Up.filter {xs : List NE} (h : Up ordS xs) (f : NE → Bool) : Up ordS (xs.filter f) := List.Pairwise.filter f h
theorem TI.away {xs : List NE} (h : TI xs) (p : ByteArray) : TI (xs.filter (awayT p)) := by
  refine ⟨h.up.filter _, fun e he => h.paths e (List.mem_filter.1 he).1, fun e he => h.nod e (List.mem_filter.1 he).1, fun e he u hu => ?_⟩
  obtain ⟨he, ha⟩ := List.mem_filter.1 he
  obtain ⟨h1, h2⟩ := (away_iff p e).1 ha
  obtain ⟨d, hd1, rfl, hd3⟩ := h.par e he u hu
  exact ⟨d, List.mem_filter.2 ⟨hd1, (away_iff p d).2 ⟨fun e' => h2 (e' ▸ hu), fun hq => h2 (ups_trans hq hu)⟩⟩, rfl, hd3⟩
/-- a row without the keys of another one -/
def cutT (xs R : List NE) : List NE := xs.filter fun e => !R.any fun r => decide (r.1 = e.1)
theorem cut_iff (xs R : List NE) (e : NE) : e ∈ cutT xs R ↔ e ∈ xs ∧ ∀ r ∈ R, ¬ r.1 = e.1 := by
  unfold cutT
  rw [List.mem_filter]
  simp
theorem und_iff (p : ByteArray) (xs : List NE) (e : NE) : e ∈ undT p xs ↔ e ∈ xs ∧ (e.1 = p ∨ p ∈ upsS e.1) := by
  unfold Go.Proofs.YteofiffbobbdmaaGreatDoor.undT
  rw [List.mem_filter, Bool.not_eq_true']
  constructor
  · rintro ⟨h1, h2⟩
    refine ⟨h1, ?_⟩
    rcases Classical.em (e.1 = p) with h | h
    · exact .inl h
    · right
      rcases Classical.em (p ∈ upsS e.1) with h' | h'
      · exact h'
      · rw [(away_iff p e).2 ⟨h, h'⟩] at h2; cases h2
  · rintro ⟨h1, h2⟩
    refine ⟨h1, ?_⟩
    cases ha : awayT p e with
    | false => rfl
    | true =>
      have := (away_iff p e).1 ha
      rcases h2 with h2 | h2
      · exact absurd h2 this.1
      · exact absurd h2 this.2
/-- what was emptied from behind -/
theorem empty_fold {xs : List NE} (h : TI xs) (p : ByteArray) : (undT p xs).reverse.foldl (fun ys e => dropT ys e.1) xs = xs.filter (awayT p) := by
  have hU : Up ordS (undT p xs) := h.up.filter _
  have key : ∀ R V : List NE, V ++ R = undT p xs → R.foldr (fun e ys => dropT ys e.1) xs = cutT xs R := by
    intro R
    induction R with
    | nil => intro V _; unfold cutT; simp; exact (List.filter_eq_self.2 fun _ _ => rfl).symm
    | cons e R ih =>
      intro V hV
      have hR := ih (V ++ [e]) (by rw [← hV]; simp)
      rw [List.foldr_cons, hR]
      have heU : e ∈ undT p xs := by rw [← hV]; simp
      have hex := (und_iff p xs e).1 heU
      have hup : Up ordS (e :: R) := by rw [← hV] at hU; exact (List.pairwise_append.1 hU).2.1
      have hC : Up ordS (cutT xs R) := h.up.filter _
      have hP : Paths (cutT xs R) := fun a ha => h.paths a ((cut_iff xs R a).1 ha).1
      have heC : e ∈ cutT xs R := (cut_iff xs R e).2 ⟨hex.1, fun r hr e' => by
        have := hup.head r hr
        rw [e', ordS_refl] at this
        omega⟩
      have hw : whyDrop (cutT xs R) e.1 = 0 := by
        unfold whyDrop
        rw [getT_in hC heC, if_neg (h.nod e hex.1).1, holds_no hC hP (fun x hx hq => ?_), if_neg (by simp)]
        obtain ⟨hx1, hx2⟩ := (cut_iff xs R x).1 hx
        have hxU : x ∈ undT p xs := (und_iff p xs x).2 ⟨hx1, .inr (by
          rcases hex.2 with h' | h'
          · rw [← h']; exact hq
          · exact ups_trans h' hq)⟩
        have ho := ups_order hq
        rw [← hV] at hxU hU
        rcases List.mem_append.1 hxU with hxV | hxR
        · have := (List.pairwise_append.1 hU).2.2 x hxV e (List.mem_cons_self ..)
          have hn := ordS_neg e.1 x.1
          omega
        · rcases List.mem_cons.1 hxR with rfl | hxR
          · rw [ordS_refl] at ho; omega
          · exact hx2 x hxR rfl
      unfold dropT
      rw [if_pos hw, drop_filter ordS_ord e.1 _ hC]
      unfold cutT
      rw [List.filter_filter]
      refine List.filter_congr fun a ha => ?_
      simp only [List.any_cons, Bool.not_or]
      congr 2
      rw [Bool.eq_iff_iff]
      simp only [decide_eq_true_eq, ordS_ord.iff]
      exact eq_comm
  rw [List.foldl_reverse]
  have := key (undT p xs) [] rfl
  rw [this]
  unfold cutT
  refine List.filter_congr fun e he => ?_
  cases ha : awayT p e with
  | true =>
    rw [Bool.not_eq_true', List.any_eq_false]
    intro r hr hk
    have hre : r = e := up_key h.up ((und_iff p xs r).1 hr).1 he (by simpa using hk)
    subst hre
    obtain ⟨h1, h2⟩ := (away_iff p r).1 ha
    rcases ((und_iff p xs r).1 hr).2 with h' | h'
    · exact h1 h'
    · exact h2 h'
  | false =>
    rw [Bool.not_eq_false', List.any_eq_true]
    refine ⟨e, List.mem_filter.2 ⟨he, by rw [ha]; rfl⟩, by simp⟩
end Sw
