/- Several texts, joined for the limit of sixty files; each one opens with its own comment. -/
import Derived.Test.YtjcbjocgachpjaaGreatDoorChecked
import Derived.Test.YtjcbjocgachpjaaGreatDoorJoin10
import Derived.Test.YtjcbjocgachpjaaGreatDoorJoin8
import Derived.Test.YtjcbjocgachpjaaGreatDoorJoin5
import Derived.Deep.RegionLaw
/- slices.Clone of a row of sorted.entry[string,swingle/api.Print]: the same elements, in memory of the call's own. -/
set_option linter.unusedVariables false
set_option linter.unusedSimpArgs false
namespace Go.Proofs.YtjcbjocgachpjaaGreatDoor
open Go Go.RowKit
open Sw
theorem infoESP : (Tryz.prog.info? 100).map (fun i => (i.zero, i.size, i.bytes)) = some (some (.agg #[.string ⟨#[]⟩, .int .i64 0, .int .i64 0, .int .u32 0, .int .i64 0, .int .u32 0]), 6, 56) := by kernel_rfl
set_option maxRecDepth 100000 in
set_option maxHeartbeats 2000000 in
theorem slCloneSP_any {α : Type} (E : α → List Value) (hE : ∀ x, (E x).length = 6) (hE1 : ∀ x, ∀ u ∈ E x, u.oneCell' = true) (w : World) (v : Value) (l : List α) (h : SlV w 6 E v l) (hl : l.length ≤ 1000000) :
    Calls Tryz.prog 84 #[v] w fun e w' => ∃ v', e = .returned v' ∧ w'.ownsRow w.heap.size 100 6 v' l.length (l.flatMap E) ∧ Below w.heap.size w w' := by
  obtain ⟨A, c, rfl, hc1, hc2, hsl⟩ := h
  cases A with
  | none =>
    have h0 : l = [] := by
      cases l with
      | nil => rfl
      | cons a l => obtain ⟨b, off, h, _⟩ := hsl (by simp); cases h
    subst h0
    have hno := World.ownsRow_nil w w.heap.size 100 6
    have HN := Lib.hid hno; clear hno hsl
    have hnl : ∀ W n c, (binOp .eql 94 (.slice none n c) (.slice none 0 0)).run Tryz.prog W = .ok (.bool true) W := fun W n c => Lib.run_eql_slice_nil W 94 100 none n c 0 0 Tryz.underlying94
    go_enter Tryz.func84, Tryz.ntmps84
    go_wp2_with fail
    go_ret
    exact ⟨_, rfl, HN.out, Below.refl _ _⟩
  | some a =>
    obtain ⟨i0, hi, hz0, hz1, hz2⟩ := info_parts infoESP
    have hlen : (l.flatMap E).length = l.length * 6 := flat_len hE l
    have hone : ∀ u ∈ l.flatMap E, u.oneCell' = true := fun u hu => by
      rw [List.mem_flatMap] at hu
      obtain ⟨x, _, hx⟩ := hu
      exact hE1 x u hx
    have hnews : ∀ j u, (l.flatMap E)[j]? = some u → w.cell? (a.add j) = some u := fun j u hj => by
      have hjl := (List.getElem?_eq_some_iff.1 hj).1
      rw [hlen] at hjl
      obtain ⟨b, off, hA, _, hcs⟩ := hsl (by omega)
      rw [Option.some.inj hA, add_mk]
      have hq : j / 6 < l.length := by omega
      have hr : j % 6 < 6 := Nat.mod_lt _ (by omega)
      have hd : j / 6 * 6 + j % 6 = j := by omega
      have h1 := flat_get hE l (j / 6) hq (j % 6) hr
      rw [hd, hj] at h1
      have h2 := hcs (j / 6) hq (j % 6) hr
      rw [Nat.add_assoc, hd] at h2
      rw [h2, ← h1]
    have hnews1 : ∀ (o : Obj) j u, (l.flatMap E)[j]? = some u → (w.alloc o).cell? (a.add j) = some u := fun o j u hj => by
      have h1 := hnews j u hj
      have hlt := World.block_lt_of_cell? w _ h1
      rw [← h1]
      exact ((Below.refl w.heap.size w).alloc (Nat.le_refl _) o).cell hlt
    have hown := World.ownsRow_made (e := 100) (size := 6) (base := w.heap.size) w #[] 0 (Nat.le_refl _) (by decide) (by simp)
    have hbe : Below w.heap.size w (w.alloc (.cells #[] 100)) := (Below.refl _ _).alloc (Nat.le_refl _) _
    have HH := Lib.hid (And.intro hown hbe); clear hown hbe
    have HL := Lib.hid hlen; clear hlen
    have HO := Lib.hid hone; clear hone
    have HW := Lib.hid hnews1; clear hnews1 hnews
    have HI := Lib.hid (And.intro hi (And.intro hz0 (And.intro hz1 hz2))); clear hi hz0 hz1 hz2
    generalize l.flatMap E = xs at *
    generalize l.length = n at *
    have hnl : ∀ W n c, (binOp .eql 94 (.slice (some a) n c) (.slice none 0 0)).run Tryz.prog W = .ok (.bool false) W := fun W n c => Lib.run_eql_slice_nil W 94 100 (some a) n c 0 0 Tryz.underlying94
    go_enter Tryz.func84, Tryz.ntmps84
    go_wp2_with (at_builtin; refine wpList_append_own _ rfl _ _ 94 rfl w.heap.size 100 i0 (.agg #[.string ⟨#[]⟩, .int .i64 0, .int .i64 0, .int .u32 0, .int .i64 0, .int .u32 0]) 6 56 Tryz.underlying94 HI.out.1 HI.out.2.1 HI.out.2.2.1 HI.out.2.2.2 rfl (by decide) _ _ _ rfl HH.out.1 a n c xs rfl HL.out (HW.out _) HO.out (by unfold maxLen; omega) (by omega) (by simp) ?_; intro v' w1 hown1 hgrow1 hnil1)
    have HP := Lib.hid (And.intro hown1 hgrow1); clear hown1 hgrow1 hnil1
    go_wp2_with fail
    go_ret
    refine ⟨_, rfl, ?_, HH.out.2.grown HP.out.2 (by simp) (fun k hk => ?_)⟩
    · have := HP.out.1
      simpa using this
    · have : w.heap.size = k := Option.some.inj hk
      omega
end Go.Proofs.YtjcbjocgachpjaaGreatDoor
/- slices.BinarySearchFunc over a row of sorted.entry[string,swingle/api.Print], as sorted.Map's find calls it. -/
set_option linter.unusedVariables false
set_option linter.unusedSimpArgs false
namespace Go.Proofs.YtjcbjocgachpjaaGreatDoor
open Go Go.RowKit
open Sw
def SrchPostSP {α : Type} (f : α → Int) (l : List α) (w : World) (e : Ending) (w' : World) : Prop :=
  ∃ i : Nat, i ≤ l.length ∧ (∀ m (h : m < l.length), m < i → f l[m] < 0) ∧ (∀ m (h : m < l.length), i ≤ m → 0 ≤ f l[m]) ∧
    e = .returned (.tuple #[.int .i64 i, .bool (if h : i < l.length then decide (f l[i] = 0) else false)]) ∧ Below w.heap.size w w'
set_option maxRecDepth 100000 in
set_option maxHeartbeats 4000000 in
theorem slSearchSP_any {α : Type} (E : α → List Value) (hE : ∀ x, (E x).length = 6) (f : α → Int) (w : World) (A : Option Addr) (n c g : Nat) (l : List α) (kv : Value) (hl : l.length = n) (hn : n ≤ 1000000) (hsl : SlOf w 6 E A l)
    (hmono : ∀ a b (ha : a < l.length) (hb : b < l.length), a ≤ b → f l[b] < 0 → f l[a] < 0)
    (hcall : ∀ W x, x ∈ l → Below w.heap.size w W → Calls Tryz.prog 122 #[.agg (E x).toArray, kv, .pointer (some ⟨g, 0, none⟩)] W fun e w' => e = .returned (.int .i64 (f x)) ∧ Below W.heap.size W w') :
    Calls Tryz.prog 121 #[.slice A n c, kv, .func (.func 122) #[] #[.pointer (some ⟨g, 0, none⟩)]] w (SrchPostSP f l w) := by
  have HS := Lib.hid hsl; clear hsl
  have HL := Lib.hid hl; clear hl
  have HM := Lib.hid hmono; clear hmono
  have HC := Lib.hid hcall; clear hcall
  have HE := Lib.hid hE; clear hE
  go_enter Tryz.func121, Tryz.ntmps121
  go_wp2_with fail
  go_loopw [9, 10] (fun iv jv wr => ∃ i j : Nat, i ≤ j ∧ j ≤ n ∧ iv = .int .i64 i ∧ jv = .int .i64 j ∧ (∀ m (h : m < l.length), m < i → f l[m] < 0) ∧ (∀ m (h : m < l.length), j ≤ m → 0 ≤ f l[m]) ∧ Below w.heap.size w wr) (fun iv jv _ => (intOf jv - intOf iv).toNat)
  case atStart => exact ⟨0, n, Nat.zero_le _, Nat.le_refl _, rfl, rfl, fun m h h' => by omega, fun m h h' => by have := HL.out; omega, Below.refl _ _⟩
  case round =>
    obtain ⟨i, j, hij, hjn, rfl, rfl, hlo, hhi, hbr⟩ := hrel
    have HLO := Lib.hid hlo; clear hlo
    have HHI := Lib.hid hhi; clear hhi
    by_cases hlt : i < j
    · have hjL : j ≤ l.length := by have := HL.out; omega
      obtain ⟨h, hh⟩ : ∃ h : Nat, ((i : Int) + j) / 2 = h := ⟨(i + j) / 2, by omega⟩
      have hih : i ≤ h := by omega
      have hhj : h < j := by omega
      have hhL : h < l.length := by omega
      obtain ⟨b, off, rfl, hbb, _⟩ := (HS.out.below hbr (Nat.le_refl _)) (by omega)
      have HR := Lib.hid ((HS.out.below hbr (Nat.le_refl _)).range HE.out h hhL)
      have HF := Lib.hid (HC.out wr l[h] (List.getElem_mem hhL) hbr)
      have HX := Lib.hid (HE.out l[h])
      have HLO2 := Lib.hid (fun (hf : f l[h] < 0) m (hm : m < l.length) (hmh : m < h + 1) => (HM.out m h hm hhL (by omega) hf : f l[m] < 0))
      have HHI2 := Lib.hid (fun (hf : ¬ f l[h] < 0) m (hm : m < l.length) (hmh : h ≤ m) => (by
        refine Int.not_lt.1 fun hx => hf ?_
        exact HM.out h m hhL hm hmh hx : 0 ≤ f l[m]))
      generalize f l[h] = fv at *
      generalize E l[h] = ev at *
      have q1 : (i : Int) + j ≤ 2000000 := by omega
      have q2 : (h : Int) < n := by omega
      go_wp2_with (refine wpList_load_mid rfl 100 (.tmp 27) rfl b (off + h * 6) rfl ev _ HR.out Tryz.underlying100 rfl (by rw [HX.out]; kernel_rfl) ?_)
      refine HF.out.mono ?_
      rintro e w2 ⟨rfl, hb2⟩
      have hb3 := hbr.trans (hb2.mono hbr.size)
      clear HR HF
      by_cases hf : fv < 0
      · have H1 := Lib.hid (HLO2.out hf)
        go_wp2_with fail
        go_roundw
        case rel => exact ⟨h + 1, j, by omega, hjn, by go_num, rfl, H1.out, HHI.out, hb3⟩
        case measure => simp [intOf]; omega
      · have H1 := Lib.hid (HHI2.out (by omega))
        go_wp2_with fail
        go_roundw
        case rel => exact ⟨i, h, hih, by omega, rfl, by go_num, HLO.out, H1.out, hb3⟩
        case measure => simp [intOf]; omega
    · obtain rfl : i = j := by omega
      clear hij hlt
      by_cases hin : i < n
      · have hiL : i < l.length := by have := HL.out; omega
        obtain ⟨b, off, rfl, hbb, _⟩ := (HS.out.below hbr (Nat.le_refl _)) (by omega)
        have HR := Lib.hid ((HS.out.below hbr (Nat.le_refl _)).range HE.out i hiL)
        have HF := Lib.hid (HC.out wr l[i] (List.getElem_mem hiL) hbr)
        have HX := Lib.hid (HE.out l[i])
        have HP := Lib.hid (fun w' (hb : Below w.heap.size w w') => (⟨i, by omega, HLO.out, HHI.out, by rw [dif_pos hiL], hb⟩ : SrchPostSP f l w (.returned (.tuple #[.int .i64 i, .bool (decide (f l[i] = 0))])) w'))
        generalize f l[i] = fv at *
        generalize E l[i] = ev at *
        have q2 : (i : Int) < n := by omega
        go_wp2_with (refine wpList_load_row_g rfl 100 (.tmp 43) rfl b (off + i * 6) rfl ev _ HR.out Tryz.underlying100 rfl (by rw [HX.out]; kernel_rfl) ?_)
        refine HF.out.mono ?_
        rintro e w2 ⟨rfl, hb2⟩
        have hb3 := hbr.trans (hb2.mono hbr.size)
        have HQ := Lib.hid (HP.out w2 hb3)
        have hbq : (fv == 0) = decide (fv = 0) := rfl
        go_wp2_with fail
        go_ret2
        exact HQ.out
      · obtain rfl : i = n := by omega
        have HP := Lib.hid (fun w' (hb : Below w.heap.size w w') => (⟨i, by have := HL.out; omega, HLO.out, HHI.out, by rw [dif_neg (by have := HL.out; omega)], hb⟩ : SrchPostSP f l w (.returned (.tuple #[.int .i64 i, .bool false])) w'))
        go_wp2_with fail
        go_ret2
        exact HP.out _ hbr
end Go.Proofs.YtjcbjocgachpjaaGreatDoor
/- sorted.Map[string,swingle/api.Print]: what a map holds; find. -/
set_option linter.unusedVariables false
set_option linter.unusedSimpArgs false
namespace Go.Proofs.YtjcbjocgachpjaaGreatDoor
open Go Go.RowKit
open Sw
/-- an entry's cells -/
def eCSP (e : ByteArray × Pr) : List Value := [.string e.1, .int .i64 e.2.kind, .int .i64 e.2.mode, .int .u32 e.2.time, .int .i64 e.2.size, .int .u32 e.2.sum]
theorem eCSP_len (e : ByteArray × Pr) : (eCSP e).length = 6 := rfl
theorem eCSP_one (e : ByteArray × Pr) : ∀ u ∈ eCSP e, u.oneCell' = true := by
  intro u hu
  simp only [eCSP, List.mem_cons, List.mem_append, List.not_mem_nil, or_false] at hu
  rcases hu with rfl | rfl | rfl | rfl | rfl | rfl <;> rfl
abbrev ordFSP : Value := .func (.func 38) #[] #[]
/-- the map in block bm holds the entries xs -/
structure SMapSP (w : World) (bm : Nat) (xs : List (ByteArray × Pr)) : Prop where
  row : ∃ v, Blk w bm 138 #[ordFSP, v] ∧ w.ownsRow 0 100 6 v xs.length (xs.flatMap eCSP)
  up : Up ordS xs
  ok : ∀ e ∈ xs, okS e.1
set_option maxRecDepth 100000 in
set_option maxHeartbeats 2000000 in
theorem find1SP_any (w : World) (g bm : Nat) (e : ByteArray × Pr) (k : ByteArray) (he : okS e.1) (hk : okS k) (hg : w.cell? ⟨g, 0, none⟩ = some (.pointer (some ⟨bm, 0, none⟩))) (hm : w.cell? ⟨bm, 0, none⟩ = some ordFSP) :
    Calls Tryz.prog 122 #[.agg (eCSP e).toArray, Value.string k, .pointer (some ⟨g, 0, none⟩)] w fun r w' => r = .returned (.int .i64 (ordS e.1 k)) ∧ Below w.heap.size w w' := by
  have HO := Lib.hid (fun W => orderS_any W e.1 k he hk)
  have hB := Blk.new w 100 (eCSP e).toArray
  have hb1 := (Below.refl w.heap.size w).alloc (Nat.le_refl _) (.cells (eCSP e).toArray 100)
  have hgl := World.block_lt_of_cell? w _ hg
  have hml := World.block_lt_of_cell? w _ hm
  have hg1 := (hb1.cell (p := ⟨g, 0, none⟩) hgl).trans hg
  have hm1 := (hb1.cell (p := ⟨bm, 0, none⟩) hml).trans hm
  have hlt := hB.lt
  have hk0 : (w.alloc (.cells (eCSP e).toArray 100)).cell? ⟨w.heap.size, 0, none⟩ = some (Value.string e.1) := hB.cell 0
  clear hg hm hB
  generalize ordS e.1 k = r at *
  have l1 : ∀ m : Held (Aft (w.alloc (.cells (eCSP e).toArray 100))), (HeldW m).cell? ⟨g, 0, none⟩ = some (.pointer (some ⟨bm, 0, none⟩)) := fun m => (Aft.cell m (p := ⟨g, 0, none⟩) (Nat.lt_of_lt_of_le hgl hb1.size)).trans hg1
  have l2 : ∀ m : Held (Aft (w.alloc (.cells (eCSP e).toArray 100))), (HeldW m).cell? ⟨bm, 0, none⟩ = some ordFSP := fun m => (Aft.cell m (p := ⟨bm, 0, none⟩) (Nat.lt_of_lt_of_le hml hb1.size)).trans hm1
  have l3 : ∀ m : Held (Aft (w.alloc (.cells (eCSP e).toArray 100))), (HeldW m).cell? ⟨w.heap.size, 0, none⟩ = some (Value.string e.1) := fun m => (Aft.cell m (p := ⟨w.heap.size, 0, none⟩) hlt).trans hk0
  have HB1 := Lib.hid hb1; clear hb1 hg1 hm1 hk0
  haveI := Aft.some (w.alloc (.cells (eCSP e).toArray 100))
  generalize (eCSP e).toArray = ec at *
  go_enter Tryz.func122, Tryz.ntmps122
  go_wp2_with fail
  refine wp_region_class (Aft (w.alloc (.cells ec 100))) (by kernel_rfl) (by kernel_rfl) (Aft.start _) ?_
  repeat (go_big_quiet_step (with_reducible exact held_below Aft.keep (HO.out _)))
  refine wpQuiet_nil ?_
  rintro _ ⟨nn, rfl⟩
  have HW : Hid (Below (w.alloc (.cells ec 100)).heap.size (w.alloc (.cells ec 100)) (HeldW nn)) := Lib.hid (HeldW_spec nn)
  go_wp2_with fail
  go_ret
  exact ⟨rfl, HB1.out.trans (HW.out.mono HB1.out.size)⟩
end Go.Proofs.YtjcbjocgachpjaaGreatDoor
/- slices.Insert of one element into a row of sorted.entry[string,swingle/api.Print] that the call owns. -/
set_option linter.unusedVariables false
set_option linter.unusedSimpArgs false
namespace Go.Proofs.YtjcbjocgachpjaaGreatDoor
open Go Go.RowKit
open Sw
/-- behind the call: a row with one more element -/
def InsPostSP (base n : Nat) (xs : List Value) (row : Option Nat) (w : World) (e : Ending) (w' : World) : Prop :=
  ∃ g cap, e = .returned (.slice (some ⟨g, 0, none⟩) (n + 1) cap) ∧ w'.ownsRow base 100 6 (.slice (some ⟨g, 0, none⟩) (n + 1) cap) (n + 1) xs ∧ w.grownBy w' row ∧ (row = some g ∨ w.heap.size ≤ g)
set_option maxRecDepth 100000 in
set_option maxHeartbeats 2000000 in
/-- at the end -/
theorem slInsertSP_end (w : World) (base : Nat) (v : Value) (n vb : Nat) (xs : List Value) (te : TypeId) (cx : Array Value) (hown : w.ownsRow base 100 6 v n xs) (hvb : Blk w vb te cx) (hcx : cx.size = 6) (h1x : ∀ u ∈ cx.toList, u.oneCell' = true) (hn : n + 1 ≤ 1000000) (hbase : base ≤ w.heap.size) :
    Calls Tryz.prog 85 #[v, .int .i64 n, .slice (some ⟨vb, 0, none⟩) 1 1] w (InsPostSP base n (xs ++ cx.toList) v.ownBlock w) := by
  have hfin : ∀ g cap w', w'.ownsRow base 100 6 (.slice (some ⟨g, 0, none⟩) (n + 1) cap) (n + 1) (xs ++ cx.toList) → w.grownBy w' v.ownBlock → (v.ownBlock = some g ∨ g = w.heap.size) →
      InsPostSP base n (xs ++ cx.toList) v.ownBlock w (.returned (.slice (some ⟨g, 0, none⟩) (n + 1) cap)) w' := fun g cap w' h1 h2 h3 => ⟨g, cap, rfl, h1, h2, by rcases h3 with h | h; exact .inl h; exact .inr (by omega)⟩
  have HF := Lib.hid hfin; clear hfin
  have HO := Lib.hid hown
  have HB := Lib.hid hvb; clear hvb
  rcases hown.2 with ⟨rfl, rfl⟩ | ⟨g, cap, cur, rfl, hbg, hg, hnc, hcm, hcs, htk⟩
  · clear hown
    go_enter Tryz.func85, Tryz.ntmps85
    go_wp2_with (at_builtin; refine wpList_app rfl _ _ 94 rfl base 100 (.agg #[.string ⟨#[]⟩, .int .i64 0, .int .i64 0, .int .u32 0, .int .i64 0, .int .u32 0]) 6 56 Tryz.underlying94 infoESP rfl (by decide) _ 0 xs rfl HO.out vb 1 cx te rfl HB.out hcx h1x (by omega) (by decide) hbase _ rfl ?_; intro g cap w1 hown1 hgrow1 hat hlt)
    have HP := Lib.hid (HF.out g cap w1 hown1 hgrow1 hat); clear hown1 hgrow1 hat
    go_wp2_with fail
    go_ret
    exact HP.out
  · clear hown htk hg hcs
    unfold maxLen at hcm
    go_enter Tryz.func85, Tryz.ntmps85
    go_wp2_with (at_builtin; refine wpList_app rfl _ _ 94 rfl base 100 (.agg #[.string ⟨#[]⟩, .int .i64 0, .int .i64 0, .int .u32 0, .int .i64 0, .int .u32 0]) 6 56 Tryz.underlying94 infoESP rfl (by decide) _ n xs rfl HO.out vb 1 cx te rfl HB.out hcx h1x (by omega) (by decide) hbase _ rfl ?_; intro g cap w1 hown1 hgrow1 hat hlt)
    all_goals
      have HP := Lib.hid (HF.out _ _ w1 hown1 hgrow1 hat); clear hown1 hgrow1 hat
      go_wp2_with fail
      go_ret
      exact HP.out
set_option maxRecDepth 100000 in
set_option maxHeartbeats 4000000 in
/-- in the midst, where there is room -/
theorem slInsertSP_room (w : World) (base g cap n i vb : Nat) (cur : Array Value) (te : TypeId) (cx : Array Value) (hbg : base ≤ g) (hg : Blk w g 100 cur) (hcs : cur.size = cap * 6) (h1c : ∀ u ∈ cur.toList.take (n * 6), u.oneCell' = true) (hvb : Blk w vb te cx) (hne : vb ≠ g) (hcx : cx.size = 6) (h1x : ∀ u ∈ cx.toList, u.oneCell' = true) (hi : i < n) (hroom : n + 1 ≤ cap) (hcm : cap ≤ maxLen) :
    Calls Tryz.prog 85 #[.slice (some ⟨g, 0, none⟩) n cap, .int .i64 i, .slice (some ⟨vb, 0, none⟩) 1 1] w
      (InsPostSP base n (cur.toList.take (i * 6) ++ cx.toList ++ (cur.toList.take (n * 6)).drop (i * 6)) (some g) w) := by
  have hov : ∀ lb cb W, Blk W g 100 cur → Blk W vb te cx → (callFunc 123 #[.slice (some ⟨vb, 0, none⟩) 1 1, .slice (some ⟨g, (i + 1) * 6, none⟩) lb cb]).run Tryz.prog W = .ok (.value (.bool false)) W := fun lb cb W h1 h2 => by
    rw [run_callFunc_extern Tryz.func123 (by kernel_rfl) (by kernel_rfl) (by kernel_rfl) (e := Extern.SlicesOverlaps.overlaps #[94, 94] #[4]) (by kernel_rfl),
      Lib.run_overlaps_apart W 94 4 100 Tryz.underlying94 6 Tryz.sizeOf100 ⟨vb, 0, none⟩ ⟨g, (i + 1) * 6, none⟩ 1 1 lb cb hne te 100 cx.size cur.size h2.shape h1.shape (by rw [hcs]; omega) (h2.frozen 0) (h2.frozen cx.size)]
    rfl
  unfold maxLen at hcm
  have hc1 : cur.toList.length = cap * 6 := by rw [Array.length_toList]; exact hcs
  obtain ⟨q1, q2, q3, q4⟩ := ins_cells cur.toList cx.toList (i * 6) (n * 6) 6 (by omega) (by omega) (by simpa using hcx)
  obtain ⟨cs, hcsd⟩ : ∃ cs, (cur.toList.take (n * 6)).drop (i * 6) = cs := ⟨_, rfl⟩
  simp only [hcsd] at q1 q2 q3 q4
  rw [hcsd]
  obtain ⟨W1, hW1⟩ : ∃ W1, w.drew.setRow g (cur.toList.take ((i + 1) * 6) ++ cs ++ cur.toList.drop ((i + 1) * 6 + cs.length)).toArray = W1 := ⟨_, rfl⟩
  have hcp1 : ∀ ty dc sc, (Builtin.copy_ #[94, 94] ty #[.slice (some ⟨g, (i + 1) * 6, none⟩) (n - i) dc, .slice (some ⟨g, i * 6, none⟩) (n + 1 - i) sc]).run Tryz.prog w.drew = .ok (goInt (n - i : Nat)) W1 := fun ty dc sc => by
    rw [← hW1]
    refine run_copy_rows w.drew _ _ ty 100 6 g _ _ dc _ _ sc cur 100 cs (n - i) Tryz.underlying94 (by kernel_rfl) hg.drew (by simp only [Nat.min_def]; split <;> omega) (by rw [q4]; omega) (fun j v hj => ?_) (by rw [q4]; omega) (fun v hv => h1c v ?_)
    · refine hg.drew.at _ j v ?_
      rw [← hcsd] at hj
      rw [List.getElem?_drop, List.getElem?_take] at hj
      split at hj
      · rw [List.getElem?_drop]; exact hj
      · cases hj
    · rw [← hcsd] at hv; exact List.mem_of_mem_drop hv
  have hg1 : Blk W1 g 100 (cur.toList.take ((i + 1) * 6) ++ cs ++ cur.toList.drop ((i + 1) * 6 + cs.length)).toArray := by rw [← hW1]; exact hg.drew.setRow _
  have hgr1 : w.grownBy W1 (some g) := by rw [← hW1]; exact grown_of_drew (grown_setRow _ _ _)
  have hvb1 : Blk W1 vb te cx := hvb.grown hgr1 (by simpa using hne)
  rw [show i * 6 + 6 = (i + 1) * 6 by omega] at q1 q2 q3
  generalize hr1 : cur.toList.take ((i + 1) * 6) ++ cs ++ cur.toList.drop ((i + 1) * 6 + cs.length) = r1 at *
  obtain ⟨W2, hW2⟩ : ∃ W2, W1.setRow g (r1.take (i * 6) ++ cx.toList ++ r1.drop (i * 6 + cx.toList.length)).toArray = W2 := ⟨_, rfl⟩
  have hcp2 : ∀ ty dc, (Builtin.copy_ #[94, 94] ty #[.slice (some ⟨g, i * 6, none⟩) (n + 1 - i) dc, .slice (some ⟨vb, 0, none⟩) 1 1]).run Tryz.prog W1 = .ok (goInt (1 : Nat)) W2 := fun ty dc => by
    rw [← hW2]
    have := run_copy_rows (P := Tryz.prog) W1 94 94 ty 100 6 g (i * 6) (n + 1 - i) dc ⟨vb, 0, none⟩ 1 1 r1.toArray 100 cx.toList 1 Tryz.underlying94 (by kernel_rfl) hg1 (by simp only [Nat.min_def]; split <;> omega) (by simpa using hcx) (World.news_of_block hvb1) (by rw [List.size_toArray, q3, Array.length_toList]; omega) h1x
    simpa using this
  have hg2 : Blk W2 g 100 (r1.take (i * 6) ++ cx.toList ++ r1.drop (i * 6 + cx.toList.length)).toArray := by rw [← hW2]; exact hg1.setRow _
  have hgr2 : w.grownBy W2 (some g) := by rw [← hW2]; exact grown_trans hgr1 (grown_setRow _ _ _)
  have hfin : InsPostSP base n (cur.toList.take (i * 6) ++ cx.toList ++ cs) (some g) w (.returned (.slice (some ⟨g, 0, none⟩) (n + 1) cap)) W2 :=
    ⟨g, cap, rfl, own_mk hbg hg2 hroom (by unfold maxLen; omega) (by rw [List.size_toArray, q2, hc1]) (by rw [List.toList_toArray, ← q1]; congr 1; omega), hgr2, .inl rfl⟩
  have HF := Lib.hid hfin; clear hfin
  clear hgr1 hgr2 hg2 hg1 hvb1 hW1 hW2 q1 q2 q3 q4 hcsd hc1 hr1 h1c h1x
  have HV := Lib.hid (fun lb cb => hov lb cb w hg hvb); clear hov
  have hz1 : ¬ ((i : Int) = (n : Int)) := by omega
  have hw1 : IntKind.i64.wrap ((i : Int) + 1) = (i : Int) + 1 := by rw [IntKind.wrap_i64]; omega
  have hb1 : (0 : Int) ≤ (i : Int) + 1 := by omega
  have hin : i ≤ n := by omega
  have htn : ((i : Int) + 1).toNat = i + 1 := by omega
  have hb2 : ¬ (cap = i + 1) := by omega
  have hb3 : (i : Int) ≤ (n : Int) + 1 := by omega
  have hb4 : ¬ (cap = i) := by omega
  have hb5 : ¬ (cap : Int) < n + 1 := by omega
  clear hcs
  go_enter Tryz.func85, Tryz.ntmps85
  go_wp2_with (simp only [HV.out])
  go_region_law (refine step_copy_rows rfl _ _ 94 94 rfl _ _ (by simp [Act.eval, Act.put]) (by simp [Act.eval, Act.put]) (hcp1 _ _ _) ?_)
  go_wp2_with (at_builtin; refine wpList_copy_rows _ rfl _ _ 94 94 rfl _ _ rfl rfl (hcp2 _ _) ?_)
  go_ret
  exact HF.out
set_option maxRecDepth 100000 in
set_option maxHeartbeats 4000000 in
/-- in the midst, where there is no room -/
theorem slInsertSP_grow (w : World) (base g cap n i vb : Nat) (cur : Array Value) (te : TypeId) (cx : Array Value) (hg : Blk w g 100 cur) (hcs : cur.size = cap * 6) (h1c : ∀ u ∈ cur.toList.take (n * 6), u.oneCell' = true) (hvb : Blk w vb te cx) (hcx : cx.size = 6) (h1x : ∀ u ∈ cx.toList, u.oneCell' = true) (hi : i < n) (hnc : n ≤ cap) (hroom : cap < n + 1) (hn : n + 1 ≤ 1000000) (hbase : base ≤ w.heap.size) :
    Calls Tryz.prog 85 #[.slice (some ⟨g, 0, none⟩) n cap, .int .i64 i, .slice (some ⟨vb, 0, none⟩) 1 1] w
      (InsPostSP base n (cur.toList.take (i * 6) ++ cx.toList ++ (cur.toList.take (n * 6)).drop (i * 6)) (some g) w) := by
  obtain rfl : cap = n := by omega
  obtain ⟨i0, hi0, hz0, hzs, hzb⟩ := info_parts infoESP
  have hc1 : cur.toList.length = cap * 6 := by rw [Array.length_toList]; exact hcs
  have htk : cur.toList.take (cap * 6) = cur.toList := List.take_of_length_le (by omega)
  rw [htk] at h1c ⊢
  have hold : (Builtin.firstCells i0.size i (.slice (some ⟨g, 0, none⟩) i cap)).run Tryz.prog w.drew = .ok (cur.toList.take (i * 6)).toArray w.drew := by
    rw [hzs]
    exact run_firstCells_some w.drew 6 i ⟨g, 0, none⟩ i cap (cur.toList.take (i * 6)) (by rw [List.length_take]; omega) (fun j v hj => by
      refine hg.drew.at 0 j v ?_
      rw [List.getElem?_take] at hj
      split at hj
      · rw [List.drop_zero]; exact hj
      · cases hj)
  obtain ⟨G, hG⟩ : ∃ G, grownCap w (cap + 1) cap 100 = G := ⟨_, rfl⟩
  have hGn : cap + 1 ≤ G := by rw [← hG]; exact grownCap_ge w _ _ _
  have hG63 : G ≤ maxLen := by rw [← hG]; exact grownCap_le_maxLen w (cap + 1) cap 100 (by unfold maxLen; omega)
  obtain ⟨R, hR⟩ : ∃ R : Array Value, (cur.toList.take (i * 6)).toArray ++ Builtin.zeroCells (Value.cells (.agg #[.string ⟨#[]⟩, .int .i64 0, .int .i64 0, .int .u32 0, .int .i64 0, .int .u32 0])) (cap + 1 - i) ++ Builtin.zeroCells (Value.cells (.agg #[.string ⟨#[]⟩, .int .i64 0, .int .i64 0, .int .u32 0, .int .i64 0, .int .u32 0])) (G - (cap + 1)) = R := ⟨_, rfl⟩
  have hRl : R.size = G * 6 := by
    rw [← hR]
    simp only [Array.size_append, List.size_toArray, List.length_take, size_zeroCells, hc1]
    simp [Value.cells]
    omega
  have hRL : R.toList.length = G * 6 := by rw [Array.length_toList, hRl]
  have hRt : R.toList.take (i * 6) = cur.toList.take (i * 6) := by
    rw [← hR, Array.toList_append, Array.toList_append, List.toList_toArray, List.append_assoc, List.take_append_of_le_length (by rw [List.length_take]; omega), List.take_take, Nat.min_self]
  obtain ⟨W0, hW0⟩ : ∃ W0, w.drew.alloc (.cells R 100) = W0 := ⟨_, rfl⟩
  have hrz : ∀ ty, (Builtin.append_ #[94, 3] ty #[.slice (some ⟨g, 0, none⟩) i cap, .int .i64 ((cap : Int) + 1 - (i : Int))]).run Tryz.prog w = .ok (.slice (some ⟨w.heap.size, 0, none⟩) (cap + 1) G) W0 := fun ty => by
    have hik : i + (cap + 1 - i) = cap + 1 := by omega
    have h := Lib.run_append_grow_zeros w 94 3 ty 100 i0 _ .i64 .i64 Tryz.underlying94 Tryz.underlying3 hi0 hz0 (some ⟨g, 0, none⟩) i cap (cur.toList.take (i * 6)) hold (cap + 1 - i) (by omega) (by omega) (by omega) (by omega) (by rw [hzb]; omega) (by rw [hzb, hik]; exact growslice_fits (by omega) (by omega))
    rw [hik] at h
    rw [show (cap : Int) + 1 - (i : Int) = ((cap + 1 - i : Nat) : Int) by omega, h, hG, hR, hW0]
  have hb0 : Below w.heap.size w W0 := by rw [← hW0]; exact ((Below.refl _ w).drew).alloc (Nat.le_refl _) _
  have hg0 : Blk W0 w.heap.size 100 R := by rw [← hW0]; exact Blk.new w.drew _ _
  have hgl := hg.lt
  have hvl := hvb.lt
  have hga : Blk W0 g 100 cur := hg.below hb0 hgl
  have hva : Blk W0 vb te cx := hvb.below hb0 hvl
  have hdl : (cur.toList.drop (i * 6)).length = (cap - i) * 6 := by rw [List.length_drop]; omega
  obtain ⟨p1, p2, p3⟩ := ins_cells2 R.toList cx.toList (cur.toList.drop (i * 6)) (i * 6) 6 (by rw [hdl, Array.length_toList, hRl]; omega) (by simpa using hcx)
  generalize hr1 : R.toList.take (i * 6) ++ cx.toList ++ R.toList.drop (i * 6 + cx.toList.length) = r1 at *
  obtain ⟨W1, hW1⟩ : ∃ W1, W0.setRow w.heap.size r1.toArray = W1 := ⟨_, rfl⟩
  have hcp1 : ∀ ty dc, (Builtin.copy_ #[94, 94] ty #[.slice (some ⟨w.heap.size, i * 6, none⟩) (cap + 1 - i) dc, .slice (some ⟨vb, 0, none⟩) 1 1]).run Tryz.prog W0 = .ok (goInt (1 : Nat)) W1 := fun ty dc => by
    rw [← hW1, ← hr1]
    exact run_copy_rows (P := Tryz.prog) W0 94 94 ty 100 6 w.heap.size (i * 6) (cap + 1 - i) dc ⟨vb, 0, none⟩ 1 1 R 100 cx.toList 1 Tryz.underlying94 (by kernel_rfl) hg0 (by simp only [Nat.min_def]; split <;> omega) (by simpa using hcx) (World.news_of_block hva) (by rw [hRl, Array.length_toList, hcx]; omega) h1x
  have hg1 : Blk W1 w.heap.size 100 r1.toArray := by rw [← hW1]; exact hg0.setRow _
  have hb1 : Below w.heap.size w W1 := by rw [← hW1]; exact hb0.grown (grown_setRow _ _ _) hb0.size (fun k hk => by cases hk; exact Nat.le_refl _)
  have hga1 : Blk W1 g 100 cur := hg.below hb1 hgl
  obtain ⟨W2, hW2⟩ : ∃ W2, W1.drew.setRow w.heap.size (r1.take ((i + 1) * 6) ++ cur.toList.drop (i * 6) ++ r1.drop ((i + 1) * 6 + (cur.toList.drop (i * 6)).length)).toArray = W2 := ⟨_, rfl⟩
  have hcp2 : ∀ ty dc sc, (Builtin.copy_ #[94, 94] ty #[.slice (some ⟨w.heap.size, (i + 1) * 6, none⟩) (cap - i) dc, .slice (some ⟨g, i * 6, none⟩) (cap - i) sc]).run Tryz.prog W1.drew = .ok (goInt (cap - i : Nat)) W2 := fun ty dc sc => by
    rw [← hW2]
    have := run_copy_rows (P := Tryz.prog) W1.drew 94 94 ty 100 6 w.heap.size ((i + 1) * 6) (cap - i) dc ⟨g, i * 6, none⟩ (cap - i) sc r1.toArray 100 (cur.toList.drop (i * 6)) (cap - i) Tryz.underlying94 (by kernel_rfl) hg1.drew (by simp only [Nat.min_def]; split <;> omega) hdl (hga1.drew.at _) (by rw [List.size_toArray, p3, hRL]; omega) (fun v hv => h1c v (List.mem_of_mem_drop hv))
    simpa using this
  have hg2 : Blk W2 w.heap.size 100 (r1.take ((i + 1) * 6) ++ cur.toList.drop (i * 6) ++ r1.drop ((i + 1) * 6 + (cur.toList.drop (i * 6)).length)).toArray := by rw [← hW2]; exact hg1.drew.setRow _
  have hb2 : Below w.heap.size w W2 := by rw [← hW2]; exact (below_drewN hb1 1).grown (grown_setRow _ _ _) hb1.size (fun k hk => by cases hk; exact Nat.le_refl _)
  rw [show i * 6 + 6 = (i + 1) * 6 by omega] at p1 p2
  rw [hRt] at p1
  have hfin : InsPostSP base cap (cur.toList.take (i * 6) ++ cx.toList ++ cur.toList.drop (i * 6)) (some g) w (.returned (.slice (some ⟨w.heap.size, 0, none⟩) (cap + 1) G)) W2 :=
    ⟨w.heap.size, G, rfl, own_mk hbase hg2 hGn hG63 (by rw [List.size_toArray, p2, Array.length_toList, hRl]) (by rw [List.toList_toArray, ← p1]; congr 1; rw [hdl]; omega), ⟨hb2.os, hb2.tape, hb2.output, hb2.size, fun k hk _ => hb2.block k hk⟩, .inr (Nat.le_refl _)⟩
  have HF := Lib.hid hfin; clear hfin
  clear hb2 hg2 hb1 hg1 hga1 hb0 hg0 hga hva hW0 hW1 hW2 p1 p2 p3 hdl hr1 hRt hRl hR hG hold hi0 hz0 hzs hzb h1c h1x htk hc1 hg hvb hcs
  unfold maxLen at hG63
  have hz1 : ¬ ((i : Int) = (cap : Int)) := by omega
  have hw1 : IntKind.i64.wrap ((i : Int) + 1) = (i : Int) + 1 := by rw [IntKind.wrap_i64]; omega
  have hb1 : (0 : Int) ≤ (i : Int) + 1 := by omega
  have hin : i ≤ cap := by omega
  have htn : ((i : Int) + 1).toNat = i + 1 := by omega
  have hb2 : ¬ (cap = i + 1) ∨ cap = i + 1 := by omega
  have hb3 : (i : Int) ≤ (cap : Int) + 1 := by omega
  have hb4 : ¬ (cap = i) := by omega
  have hb5 : (cap : Int) < cap + 1 := by omega
  have hG1 : ¬ (G = i) := by omega
  have hG2 : ¬ (G = i + 1) := by omega
  clear hb2
  go_enter Tryz.func85, Tryz.ntmps85
  go_wp2_with (first
    | (at_builtin; refine Lib.wpList_append_run _ rfl _ _ _ _ rfl _ _ rfl rfl _ _ (hrz _) ?_)
    | (at_builtin; refine wpList_copy_rows _ rfl _ _ 94 94 rfl _ _ rfl rfl (hcp1 _ _) ?_))
  go_region_law (refine step_copy_rows rfl _ _ 94 94 rfl _ _ (by simp [Act.eval, Act.put]) (by simp [Act.eval, Act.put]) (hcp2 _ _ _) ?_)
  go_wp2_with fail
  go_ret
  exact HF.out
/-- one element more, at any place -/
theorem slInsertSP_any (w : World) (base : Nat) (v : Value) (n i vb : Nat) (xs : List Value) (te : TypeId) (cx : Array Value) (hown : w.ownsRow base 100 6 v n xs) (h1c : ∀ u ∈ xs, u.oneCell' = true) (hvb : Blk w vb te cx) (hne : v.ownBlock ≠ some vb) (hcx : cx.size = 6) (h1x : ∀ u ∈ cx.toList, u.oneCell' = true) (hi : i ≤ n) (hn : n + 1 ≤ 1000000) (hbase : base ≤ w.heap.size) :
    Calls Tryz.prog 85 #[v, .int .i64 i, .slice (some ⟨vb, 0, none⟩) 1 1] w (InsPostSP base n (xs.take (i * 6) ++ cx.toList ++ xs.drop (i * 6)) v.ownBlock w) := by
  by_cases hin : i = n
  · subst hin
    have hl := hown.1
    rw [List.take_of_length_le (by omega), List.drop_of_length_le (by omega), List.append_nil]
    exact slInsertSP_end w base v i vb xs te cx hown hvb hcx h1x hn hbase
  · obtain ⟨g, cap, cur, rfl, hbg, hg, h1, h2, h3, h4⟩ := own_form hown (by omega)
    subst h4
    have ht : ∀ k, k ≤ n → (cur.toList.take (n * 6)).take (k * 6) = cur.toList.take (k * 6) := fun k hk => by rw [List.take_take]; congr 1; omega
    rw [ht i (by omega)]
    have hneg : vb ≠ g := fun e => hne (by rw [e]; rfl)
    by_cases hroom : n + 1 ≤ cap
    · exact slInsertSP_room w base g cap n i vb cur te cx hbg hg h3 h1c hvb hneg hcx h1x (by omega) hroom h2
    · exact slInsertSP_grow w base g cap n i vb cur te cx hg h3 h1c hvb hcx h1x (by omega) h1 (by omega) hn hbase
end Go.Proofs.YtjcbjocgachpjaaGreatDoor
/- slices.Delete of one element out of a row of sorted.entry[string,swingle/api.Print] that the call owns. -/
set_option linter.unusedVariables false
set_option linter.unusedSimpArgs false
namespace Go.Proofs.YtjcbjocgachpjaaGreatDoor
open Go Go.RowKit
open Sw
end Go.Proofs.YtjcbjocgachpjaaGreatDoor
/- sorted.Map[string,swingle/api.Print]: New, find, Len, Clone, Drop, Put. -/
set_option linter.unusedVariables false
set_option linter.unusedSimpArgs false
namespace Go.Proofs.YtjcbjocgachpjaaGreatDoor
open Go Go.RowKit
open Sw
section
variable {w w' : World} {bm : Nat} {xs : List (ByteArray × Pr)}
theorem SMapSP.lt (h : SMapSP w bm xs) : bm < w.heap.size := by obtain ⟨v, hb, _⟩ := h.row; exact hb.lt
theorem SMapSP.ord (h : SMapSP w bm xs) : w.cell? ⟨bm, 0, none⟩ = some ordFSP := by obtain ⟨v, hb, _⟩ := h.row; exact hb.cell 0
theorem own_grown_typSP {w w' : World} {base : Nat} {e : TypeId} {size n : Nat} {v : Value} {l : List Value} (h : w.ownsRow base e size v n l) {g : Nat} {t : TypeId} {cs : Array Value} (hg : w.grownBy w' (some g)) (hB : Blk w g t cs) (hne : e ≠ t) : w'.ownsRow base e size v n l :=
  h.kept hg (by
    rcases h.2 with ⟨rfl, _⟩ | ⟨g', cap, cur, rfl, _, hg', _⟩
    · exact .inl rfl
    · right
      intro he
      have : g' = g := by simpa [Value.ownBlock] using he
      subst this
      exact Blk.other (hg' : Blk w g' e cur) hB hne rfl)
theorem SMapSP.grown (h : SMapSP w bm xs) {g : Nat} {t : TypeId} {cs : Array Value} (hg : w.grownBy w' (some g)) (hne : bm ≠ g) (hB : Blk w g t cs) (ht : 100 ≠ t) : SMapSP w' bm xs := by
  obtain ⟨v, hb, ho⟩ := h.row
  exact ⟨⟨v, hb.grown hg (by simpa using hne), own_grown_typSP ho hg hB ht⟩, h.up, h.ok⟩
theorem SMapSP.below (h : SMapSP w bm xs) (hb : Below w.heap.size w w') : SMapSP w' bm xs := by
  obtain ⟨v, hB, ho⟩ := h.row
  exact ⟨⟨v, hB.below hb hB.lt, own_kept ho hb⟩, h.up, h.ok⟩
theorem SMapSP.drewN (h : SMapSP w bm xs) (n : Nat) : SMapSP (w.drewN n) bm xs := h.below (below_drewN (Below.refl _ _) n)
theorem SMapSP.drew (h : SMapSP w bm xs) : SMapSP w.drew bm xs := h.below (Below.refl _ _).drew
theorem flat1SP (xs : List (ByteArray × Pr)) : ∀ u ∈ xs.flatMap eCSP, u.oneCell' = true := fun u hu => by
  rw [List.mem_flatMap] at hu
  obtain ⟨x, _, hx⟩ := hu
  exact eCSP_one x u hx
end
set_option maxRecDepth 100000 in
theorem srtNewSP_any (w : World) :
    Calls Tryz.prog 45 #[ordFSP] w fun e w' => ∃ bm, e = .returned (.pointer (some ⟨bm, 0, none⟩)) ∧ SMapSP w' bm [] ∧ w.heap.size ≤ bm ∧ Below w.heap.size w w' := by
  have hB := Blk.new w 138 #[ordFSP, .slice none 0 0]
  have hb1 := (Below.refl w.heap.size w).alloc (Nat.le_refl _) (.cells #[ordFSP, .slice none 0 0] 138)
  have HF := Lib.hid (⟨⟨_, hB, World.ownsRow_nil _ 0 100 6⟩, List.Pairwise.nil, fun e he => by cases he⟩ : SMapSP _ w.heap.size [])
  have HB := Lib.hid hb1; clear hb1 hB
  have hnf : ∀ W, (binOp .eql 90 ordFSP Value.nilFunc).run Tryz.prog W = .ok (.bool false) W := fun W => by kernel_rfl
  go_enter Tryz.func45, Tryz.ntmps45
  go_wp2_with fail
  go_ret
  exact ⟨_, rfl, HF.out, Nat.le_refl _, HB.out⟩
/-- the answer of find -/
def FindPostSP (k : ByteArray) (xs : List (ByteArray × Pr)) (w : World) (e : Ending) (w' : World) : Prop :=
  e = .returned (.tuple #[.int .i64 (lbN ordS k xs), .bool (inN ordS k xs)]) ∧ Below w.heap.size w w'
set_option maxRecDepth 100000 in
set_option maxHeartbeats 2000000 in
theorem srtFindSP_any (w : World) (bm : Nat) (xs : List (ByteArray × Pr)) (k : ByteArray) (h : SMapSP w bm xs) (hn : xs.length ≤ 1000000) (hk : okS k) :
    Calls Tryz.prog 83 #[.pointer (some ⟨bm, 0, none⟩), Value.string k] w (FindPostSP k xs w) := by
  obtain ⟨v, hb, ho⟩ := h.row
  have hord := h.ord
  have hB := Blk.new w 56 #[.pointer (some ⟨bm, 0, none⟩)]
  have hb1 := (Below.refl w.heap.size w).alloc (Nat.le_refl _) (.cells #[.pointer (some ⟨bm, 0, none⟩)] 56)
  have hg1 : (w.alloc (.cells #[.pointer (some ⟨bm, 0, none⟩)] 56)).cell? ⟨w.heap.size, 0, none⟩ = some (.pointer (some ⟨bm, 0, none⟩)) := hB.cell 0
  have hbl := hb.lt
  have hm0 := (hb1.cell (p := ⟨bm, 0, none⟩) hbl).trans hord
  have hm1 : (w.alloc (.cells #[.pointer (some ⟨bm, 0, none⟩)] 56)).cell? ⟨bm, 1, none⟩ = some v := (hb1.cell (p := ⟨bm, 1, none⟩) hbl).trans (hb.cell 1)
  have hsz := hB.lt
  obtain ⟨A, c, rfl, hc1, hc2, hsl⟩ := SlV.of_own (own_kept ho hb1) eCSP_len (by decide)
  have HS := Lib.hid (slSearchSP_any eCSP eCSP_len (fun e => ordS e.1 k) (w.alloc (.cells #[.pointer (some ⟨bm, 0, none⟩)] 56)) A xs.length c w.heap.size xs (Value.string k) rfl hn hsl
    (fun a b ha hb' hab hlt => by
      rcases Nat.lt_or_ge a b with h1 | h1
      · exact ordS_ord.trans _ _ _ (List.pairwise_iff_getElem.1 h.up a b ha hb' h1) hlt
      · obtain rfl : a = b := by omega
        exact hlt)
    (fun W x hx hbW => find1SP_any W w.heap.size bm x k (h.ok x hx) hk ((hbW.cell (p := ⟨w.heap.size, 0, none⟩) hsz).trans hg1) ((hbW.cell (p := ⟨bm, 0, none⟩) (Nat.lt_of_lt_of_le hbl hb1.size)).trans hm0)))
  have hv1 : w.cell? ⟨bm, 1, none⟩ = some (.slice A xs.length c) := hb.cell 1
  have HF := Lib.hid (fun e w' (hp : SrchPostSP (fun e : ByteArray × Pr => ordS e.1 k) xs (w.alloc (.cells #[.pointer (some ⟨bm, 0, none⟩)] 56)) e w') => (by
    obtain ⟨i, hi, h1, h2, rfl, hbw⟩ := hp
    have hl := lbN_eq ordS_ord k xs i hi h1 h2
    subst hl
    refine ⟨?_, hb1.trans (hbw.mono hb1.size)⟩
    rw [inN_eq ordS_ord] : FindPostSP k xs w e w'))
  clear hb1 hB hb ho hord h hsl hm0 hm1 hg1 hsz
  generalize xs.length = n at *
  go_enter Tryz.func83, Tryz.ntmps83
  go_wp2_with fail
  refine HS.out.mono ?_
  rintro e w2 hp
  obtain ⟨rfl, hb2⟩ := HF.out _ _ hp
  clear hp HF HS
  go_wp2_with fail
  go_ret2
  exact ⟨rfl, hb2⟩
end Go.Proofs.YtjcbjocgachpjaaGreatDoor
