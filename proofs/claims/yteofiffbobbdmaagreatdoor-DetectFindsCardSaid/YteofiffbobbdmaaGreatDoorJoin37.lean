/- Several texts, joined for the limit of sixty files; each one opens with its own comment. -/
import Derived.Test.YteofiffbobbdmaaGreatDoorJoin36
import Derived.Test.YteofiffbobbdmaaGreatDoorJoin12
import Derived.Test.YteofiffbobbdmaaGreatDoorJoin13
import Derived.Test.YteofiffbobbdmaaGreatDoorJoin19
import Derived.Test.YteofiffbobbdmaaGreatDoorJoin18
import Derived.Stop.RegionWithIn
import Derived.Test.YteofiffbobbdmaaGreatDoorJoin17
import Derived.Test.YteofiffbobbdmaaGreatDoorJoin1
import Derived.Test.YteofiffbobbdmaaGreatDoorJoin16
/- sorted's iterators over string, swingle/api.Print: told, All, From, Back. -/
set_option linter.unusedVariables false
set_option linter.unusedSimpArgs false
namespace Go.Proofs.YteofiffbobbdmaaGreatDoor
open Go Go.RowKit Go.Shelf
open Sw
attribute [local go_sem] Oper.semAt_some
set_option maxRecDepth 100000 in
set_option maxHeartbeats 4000000 in
theorem toldSP_tells (n : Nat) (hn : 1 ≤ n) (gb : Nat) (v : Value) (xs : List (ByteArray × Pr)) (w : World) (hgb : Blk w gb 143 #[v]) (hv : Lies w 177 6 eCSP v xs) (hl : xs.length ≤ 1000000) :
    SeqTells (fun _ => False) Fence.wide n Tryz.prog 118 #[.pointer (some ⟨gb, 0, none⟩)] (fun x : ByteArray × Pr => #[Value.string x.1, (fun v => Value.agg v.c) x.2]) (KeepIt gb v) (fun ys => ys = xs) (fun pre => pre <+: xs) (fun pre => pre <+: xs) w := fun l J Jx W hW hJ hJx hY hJ0 => by
  have hB := hgb.below hW hgb.lt
  have hL := hv.below hW
  have c0 := hB.cell 0
  simp at c0
  have hL2 := hL
  obtain ⟨A, c, rfl, hc1, hc2, _⟩ := hL2
  have HB := Lib.hid (And.intro hgb hB); clear hgb hB
  have HL := Lib.hid hL; clear hL
  have HV := Lib.hid hv; clear hv
  have HJ := Lib.hid hJ; clear hJ
  have HY := Lib.hid hY; clear hY
  clear hJx
  refine callsIn_of_wp Tryz.func118 rfl trivial ?_ rfl
  simp only [Tryz.ntmps118, List.size_toArray, List.length_cons, List.length_nil, Nat.reduceAdd, Nat.reduceSub, Array.replicate_succ, Array.replicate_zero, List.push_toArray, List.append_toArray, List.nil_append, List.cons_append]
  gi_wp2
  gi_loopw [7] (fun iv wr => ∃ k : Nat, iv = .int .i64 k ∧ k ≤ xs.length ∧ J (xs.take k) wr ∧ KeepIt gb (.slice A xs.length c) W wr) (fun iv _ => xs.length - (intOf iv).toNat)
  case atStart => exact ⟨0, rfl, Nat.zero_le _, hJ0, ⟨Nat.le_refl _, rfl, fun _ _ => rfl⟩⟩
  case round =>
    obtain ⟨k, rfl, hk, hJs, hK⟩ := hrel
    by_cases hlt : k < xs.length
    · have hLr := HL.out.kept (fun g _ hg _ => hK.row g hg)
      obtain ⟨A', c', hA, _, _, hsl⟩ := hLr.slv eCSP_len
      obtain ⟨rfl, rfl⟩ : A = A' ∧ c = c' := by injection hA with e1 e2 e3; exact ⟨e1, e3⟩
      obtain ⟨b, off, rfl, hbb, hcs⟩ := hsl (by omega)
      have hr := (hsl.range eCSP_len k hlt)
      have hJ1 := HJ.out _ wr (wr.alloc (.cells (eCSP xs[k]).toArray 177)) none hJs (grown_alloc (grown_refl wr none) _) (fun r h => by cases h)
      have hK1 : KeepIt gb (.slice (some ⟨b, off, none⟩) xs.length c) W (wr.alloc (.cells (eCSP xs[k]).toArray 177)) := hK.trans (.below ((Below.refl wr.heap.size wr).alloc (Nat.le_refl _) _) (Nat.lt_of_lt_of_le HB.out.2.lt hK.size) (fun g hg => by cases hg; exact hbb))
      have htk : xs.take (k + 1) = xs.take k ++ [xs[k]] := by rw [List.take_succ_eq_append_getElem hlt]
      have hy := HY.out (xs.take k) xs[k] _ hJ1 (by rw [← htk]; exact List.take_prefix _ _)
      rw [← htk] at hy
      generalize xs[k] = x at *
      have HQ := Lib.hid (And.intro hJ1 hK1); clear hJ1 hK1 hcs hJs hK hsl hLr htk
      have q0 := hr 0 _ rfl
      have q1 := hr 1 _ rfl
      have q2 := hr 2 _ rfl
      have q3 := hr 3 _ rfl
      have q4 := hr 4 _ rfl
      have q5 := hr 5 _ rfl
      simp only [Nat.add_zero] at q0 q1 q2 q3 q4 q5
      have hki : (k : Int) < xs.length := by omega
      obtain ⟨fn, tmps, assign, body, hyy, hR⟩ := hy
      try dsimp only at hyy
      simp only [eCSP, Pr.c] at hyy hR
      clear hr
      gi_wp2
      refine hR.mono ?_
      rintro e W3 (⟨rfl, hJ3, hk3⟩ | ⟨rfl, hJx3⟩)
      · have hK3 := HQ.out.2.trans hk3
        have HZ := Lib.hid (And.intro hJ3 hK3); clear hJ3 hk3 hK3
        gi_wp2
        go_roundw
        case rel => exact ⟨k + 1, by go_num, by omega, HZ.out.1, HZ.out.2⟩
        case measure => simp [intOf]; omega
      · gi_wp2
        refine bodyPost_ret (results_none rfl _ _ _) rfl ?_
        exact ⟨⟨_, rfl⟩, .inr ⟨_, List.take_prefix _ _, hJx3⟩⟩
    · obtain rfl : k = xs.length := by omega
      rw [List.take_length] at hJs
      gi_wp2
      go_end0
      exact ⟨⟨_, rfl⟩, .inl ⟨_, rfl, hJs⟩⟩
theorem toldSP_stops (n : Nat) (hn : 1 ≤ n) (gb : Nat) (v : Value) (xs : List (ByteArray × Pr)) (w : World) (hgb : Blk w gb 143 #[v]) (hv : Lies w 177 6 eCSP v xs) (hl : xs.length ≤ 1000000) :
    SeqStopsK Fence.wide n Tryz.prog 118 #[.pointer (some ⟨gb, 0, none⟩)] (fun x : ByteArray × Pr => #[Value.string x.1, (fun v => Value.agg v.c) x.2]) (KeepIt gb v) (fun ys => ys = xs) (fun pre => pre <+: xs) xs.length w :=
  fun l J Jx W hW hJ hJx hY hJ0 => toldSP_tells n hn gb v xs w hgb hv hl l J Jx W hW (fun s A B row hs hg hr => hJ s A B row hs hg (fun r e => (hr r e).resolve_left id)) (fun s A B row hs hg hr => hJx s A B row hs hg (fun r e => (hr r e).resolve_left id))
    (fun pre x W1 h1 h2 => hY pre x W1 h1 (by obtain ⟨r, hr⟩ := h2; rw [← hr]; simp only [List.length_append, List.length_singleton]; omega)) hJ0
/-- an iterator over the entries xs -/
def SeqOfSP (xs : List (ByteArray × Pr)) (w : World) (e : Ending) (w' : World) : Prop :=
  ∃ gb v, e = .returned (.func (.func 118) #[] #[.pointer (some ⟨gb, 0, none⟩)]) ∧ Blk w' gb 143 #[v] ∧ Lies w' 177 6 eCSP v xs ∧ w.heap.size ≤ gb ∧ (∀ g, v.ownBlock = some g → g < w'.heap.size) ∧ Below w.heap.size w w'
theorem lies_ltSP {w : World} {te : TypeId} {size : Nat} {α : Type} {E : α → List Value} {v : Value} {l : List α} (h : Lies w te size E v l) (h0 : l = [] → v.ownBlock = none ∨ ∃ g, v.ownBlock = some g ∧ g < w.heap.size) : ∀ g, v.ownBlock = some g → g < w.heap.size := by
  intro g hg
  cases l with
  | nil =>
    rcases h0 rfl with h1 | ⟨g', h1, h2⟩
    · rw [h1] at hg; cases hg
    · rw [h1] at hg; cases hg; exact h2
  | cons x l =>
    obtain ⟨A, c, rfl, _, _, h3⟩ := h
    obtain ⟨g', off, cur, rfl, hb, _⟩ := h3 (by simp)
    cases hg
    exact hb.lt
set_option maxRecDepth 100000 in
theorem toldSP_any (w : World) (v : Value) (xs : List (ByteArray × Pr)) (hv : Lies w 177 6 eCSP v xs) (hb : ∀ g, v.ownBlock = some g → g < w.heap.size) :
    Calls Tryz.prog 83 #[v] w (SeqOfSP xs w) := by
  have hbl : Below w.heap.size w (w.alloc (.cells #[v] 143)) := (Below.refl _ _).alloc (Nat.le_refl _) _
  have HF := Lib.hid (⟨w.heap.size, v, rfl, Blk.new _ _ _, hv.below hbl, Nat.le_refl _, fun g hg => by have := hb g hg; simp; omega, hbl⟩ : SeqOfSP xs w (.returned (.func (.func 118) #[] #[.pointer (some ⟨w.heap.size, 0, none⟩)])) (w.alloc (.cells #[v] 143)))
  obtain ⟨A, c, rfl, _, _, _⟩ := hv
  clear hb hbl
  go_enter Tryz.func83, Tryz.ntmps83
  go_wp2_with fail
  go_ret
  exact HF.out
theorem SeqOfSP.mono {xs : List (ByteArray × Pr)} {w w1 : World} {e : Ending} {w' : World} (h : SeqOfSP xs w1 e w') (hb : Below w.heap.size w w1) : SeqOfSP xs w e w' := by
  obtain ⟨gb, v, he, h1, h2, h3, h4, h5⟩ := h
  exact ⟨gb, v, he, h1, h2, Nat.le_trans hb.size h3, h4, hb.trans (h5.mono hb.size)⟩
set_option maxRecDepth 100000 in
theorem srtAllSP_any (w : World) (bm : Nat) (xs : List (ByteArray × Pr)) (h : SMapSP w bm xs) :
    Calls Tryz.prog 48 #[.pointer (some ⟨bm, 0, none⟩)] w (SeqOfSP xs w) := by
  obtain ⟨v, hb, ho⟩ := h.row
  have hL := Lies.of_own ho eCSP_len (by decide)
  have hlt := fun g hg => (ho.lt g hg).2
  obtain ⟨A, c, rfl, _, _, _⟩ := SlV_of_any ho
  have HT := Lib.hid (toldSP_any w _ xs hL hlt)
  have hv1 : w.cell? ⟨bm, 1, none⟩ = some (.slice A xs.length c) := hb.cell 1
  clear hL hb ho h hlt
  go_enter Tryz.func48, Tryz.ntmps48
  go_wp2_with fail
  refine HT.out.mono ?_
  rintro e w1 ⟨gb, v, rfl, h1, h2, h3, h4, h5⟩
  have HF := Lib.hid (⟨gb, v, rfl, h1, h2, h3, h4, h5⟩ : SeqOfSP xs w (.returned (.func (.func 118) #[] #[.pointer (some ⟨gb, 0, none⟩)])) w1)
  clear h1 h2 h3 h4 h5 HT
  go_wp2_with fail
  go_ret
  exact HF.out
end Go.Proofs.YteofiffbobbdmaaGreatDoor
/- archive.marks. -/
set_option linter.unusedVariables false
set_option linter.unusedSimpArgs false
namespace Go.Proofs.YteofiffbobbdmaaGreatDoor
open Go Go.RowKit Go.Shelf
open Sw
attribute [local go_sem] Oper.semAt_some
theorem SMapSP.ownF {W W' : World} {row : Option Nat} {bm : Nat} {X : List MkE} (h : SMapSP W bm X) (hg : W.grownBy W' row) (hr : ∀ r, row = some r → ∃ o : Obj, W.heap[r]? = some o ∧ o.isCells = false) : SMapSP W' bm X := by
  obtain ⟨v, hb, ho⟩ := h.row
  exact ⟨⟨v, blk_ownF hb hg hr, own_ownF ho hg hr⟩, h.up, h.ok⟩
theorem smapSP_blk {w : World} {bm : Nat} {X : List MkE} (h : SMapSP w bm X) : ∃ cs, Blk w bm 145 cs := by
  obtain ⟨v, hb, _⟩ := h.row
  exact ⟨_, hb⟩
/-- the map of prints, and its box -/
def MkI (T bm : Nat) (X : List MkE) (W : World) : Prop := Blk W T 100 #[.pointer (some ⟨bm, 0, none⟩)] ∧ SMapSP W bm X
theorem MkI.below {T bm : Nat} {X : List MkE} {A B : World} (h : MkI T bm X A) (hb : Below A.heap.size A B) : MkI T bm X B := ⟨h.1.below hb h.1.lt, h.2.below hb⟩
theorem MkI.ownF {T bm : Nat} {X : List MkE} {A B : World} {row : Option Nat} (h : MkI T bm X A) (hg : A.grownBy B row) (hr : ∀ r, row = some r → ∃ o : Obj, A.heap[r]? = some o ∧ o.isCells = false) : MkI T bm X B := ⟨blk_ownF h.1 hg hr, h.2.ownF hg hr⟩
theorem MkI.put {T bm : Nat} {X Y : List MkE} {A B : World} (h : MkI T bm X A) (hm : SMapSP B bm Y) (hg : A.grownBy B (some bm)) : MkI T bm Y B := by
  obtain ⟨cs, hB⟩ := smapSP_blk h.2
  exact ⟨h.1.grown hg (fun e => by have e' : T = bm := by simpa using e
                                   subst e'; exact Blk.other h.1 hB (by decide) rfl), hm⟩
/-- marks put one by one -/
def foldMk (pre : List NE) : List MkE := pre.foldl (fun X e => putN ordS e.1 (printN e.2) X) []
theorem foldMk_one (pre : List NE) (x : NE) : foldMk (pre ++ [x]) = putN ordS x.1 (printN x.2) (foldMk pre) := by unfold foldMk; rw [List.foldl_append]; rfl
theorem put_endM {X : List MkE} {p : ByteArray} (h : ∀ e ∈ X, ordS e.1 p < 0) (v : Pr) (hu : Up ordS X) : putN ordS p v X = X ++ [(p, v)] := by
  rw [put_filter ordS_ord p v X hu, List.filter_eq_self.2 (fun e he => by simpa using h e he), List.filter_eq_nil_iff.2 (fun e he => by have := h e he; simp; omega)]
theorem foldMk_eq {xs : List NE} (hu : Up ordS xs) : ∀ (pre : List NE), pre <+: xs → foldMk pre = marksT pre := by
  intro pre hp
  obtain ⟨r, rfl⟩ := hp
  have key : ∀ (n : Nat), n ≤ pre.length → foldMk (pre.take n) = marksT (pre.take n) := by
    intro n
    induction n with
    | zero => intro _; rfl
    | succ n ih =>
      intro hn
      rw [List.take_succ_eq_append_getElem (by omega), foldMk_one, ih (by omega)]
      have hup : Up ordS (pre.take (n + 1)) := (hu.sublist (List.sublist_append_left pre r)).sublist (List.take_sublist _ _)
      rw [List.take_succ_eq_append_getElem (by omega)] at hup
      have hpw := List.pairwise_append.1 hup
      rw [put_endM (fun e he => by
        obtain ⟨d, hd, rfl⟩ := List.mem_map.1 he
        exact hpw.2.2 d hd _ (List.mem_cons_self ..)) _ (marksT_up hpw.1)]
      unfold marksT
      rw [List.map_append]
      rfl
  have := key pre.length (Nat.le_refl _)
  rwa [List.take_length] at this
/-- words of a tree put into the map -/
def MtI (T bm : Nat) (gb : Nat) (v : Value) (xs : List NE) (pre : List NE) (W : World) : Prop :=
  (MkI T bm (foldMk pre) W ∧ gb < W.heap.size) ∧ Blk W gb 149 #[v] ∧ Lies W 152 5 eCSN v xs
theorem MtI.own (T bm : Nat) (gb : Nat) (v : Value) (xs : List NE) : Own (MtI T bm gb v xs) := fun _ A C row hs hg hr => ⟨⟨hs.1.1.ownF hg hr, Nat.lt_of_lt_of_le hs.1.2 hg.size⟩, blk_ownF hs.2.1 hg hr, hs.2.2.ownF hg hr⟩
theorem MtI.below {T bm gb : Nat} {v : Value} {xs pre : List NE} {A B : World} (hs : MtI T bm gb v xs pre A) (hb : Below A.heap.size A B) : MtI T bm gb v xs pre B := ⟨⟨hs.1.1.below hb, Nat.lt_of_lt_of_le hs.1.2 hb.size⟩, hs.2.1.below hb hs.2.1.lt, hs.2.2.below hb⟩
set_option maxRecDepth 100000 in
set_option maxHeartbeats 8000000 in
theorem marks_any (w : World) (bt bmt : Nat) (xs : List NE) (hT : TreeAt w bt bmt xs) (hxl : xs.length ≤ 1000) (hxp : ∀ e ∈ xs, e.1.size ≤ 90000) (hxd : ∀ e ∈ xs, e.2.data.size ≤ maxLen) :
    Calls Tryz.prog 47 #[.pointer (some ⟨bt, 0, none⟩)] w fun e w' => ∃ bm, e = .returned (.pointer (some ⟨bm, 0, none⟩)) ∧ SMapSP w' bm (marksT xs) ∧ w.heap.size ≤ bm ∧ Below w.heap.size w w' := by
  refine callsIn_wide.1 (?_ : CallsIn Fence.wide 9 _ _ _ _ _)
  refine callsIn_of_wp_marks Tryz.func47 rfl trivial ?_ rfl
  simp only [Tryz.ntmps47, List.size_toArray, List.length_cons, List.length_nil, Nat.reduceAdd, Nat.reduceSub, Array.replicate_succ, Array.replicate_zero, List.push_toArray, List.append_toArray, List.nil_append, List.cons_append]
  have HN := Lib.hid (srtNewSP_any w)
  have H0 := Lib.hid hT
  have HX := Lib.hid (And.intro hxp (And.intro hxd hT.map.up))
  clear hT hxp hxd
  gi_wp2
  refine ⟨trivial, (callsIn_wide.2 HN.out).mono ?_⟩
  rintro e w1 ⟨bm, rfl, hm, hbm, hb1⟩
  have hba : Below w1.heap.size w1 (w1.alloc (.cells #[.pointer (some ⟨bm, 0, none⟩)] 100)) := (Below.refl _ w1).alloc (Nat.le_refl _) _
  have hb2 := hb1.trans (hba.mono hb1.size)
  have H1 := Lib.hid (And.intro (show MkI w1.heap.size bm [] _ from ⟨Blk.new w1 _ _, hm.below hba⟩) (And.intro hb2 (H0.out.below hb2)))
  have HM := Lib.hid hbm
  obtain ⟨W1, hW1⟩ : ∃ W1, w1.alloc (.cells #[.pointer (some ⟨bm, 0, none⟩)] 100) = W1 := ⟨_, rfl⟩
  obtain ⟨T, hTe⟩ : ∃ T, w1.heap.size = T := ⟨_, rfl⟩
  rw [hW1, hTe] at H1
  have HW1 := Lib.hid (And.intro hW1 hTe)
  clear hba hb2 hb1 hbm hm hW1 hTe HN H0
  gi_wp2
  rw [HW1.out.1, HW1.out.2]
  clear HW1
  refine ⟨trivial, (callsIn_wide.2 (treeAll_any W1 bt bmt xs H1.out.2.2)).mono ?_⟩
  rintro e w6 ⟨gb, v, rfl, hgb, hL, hge, hvb, hb6⟩
  have hP6 := H1.out.1.below hb6
  have hB6 := H1.out.2.1.trans (hb6.mono H1.out.2.1.size)
  have hgl := hgb.lt
  obtain ⟨cs0, hcs0⟩ := smapSP_blk hP6.2
  have hbmgb : bm ≠ gb := fun e => by subst e; exact Blk.other hcs0 hgb (by decide) rfl
  have hbmv : 0 < xs.length → ∀ g, v.ownBlock = some g → bm ≠ g := fun h0 g hg e => by
    subst e
    obtain ⟨A, c, rfl, _, _, h3⟩ := hL
    obtain ⟨g', off, cur, rfl, hb, _⟩ := h3 h0
    cases hg
    exact Blk.other hcs0 hb (by decide) rfl
  have HNE := Lib.hid (And.intro hbmgb hbmv)
  have hz6 := hB6.size
  clear hbmgb hbmv hcs0 hb6 hge H1
  gi_wp2
  refine wpIn_rangeFunc_tellW (Mine := fun _ => False) (fun _ h => h.elim) rfl (by omega) (gf := 150) (lb := #[.pointer (some ⟨gb, 0, none⟩)]) rfl trivial (enters_of Tryz.func150 (by kernel_rfl) rfl)
    (toldSN_tells 8 (by omega) gb v xs w6 hgb hL (by omega)) KeepIt.trans (keepIt_b hgl hvb) (Below.refl _ _) (fun _ => rfl)
    (fun pre W => MtI T bm gb v xs pre W ∧ Below w.heap.size w W)
    (fun c pre W => False)
    (OwnM.of_none (OwnFrom.and (Own.from (MtI.own T bm gb v xs) _) (ownFrom_below (Nat.le_refl _) (by omega))))
    (fun c => OwnM.of_none (fun _ _ _ _ hs _ _ => hs.elim))
    ⟨⟨⟨hP6, hgl⟩, hgb, hL⟩, hB6⟩
    ?a1 (fun x W => W.alloc (.cells x.2.c 51))
    (fun x n₀ pre W => MtI T bm gb v xs pre W ∧ Below w.heap.size w W ∧ Blk W n₀ 51 x.2.c) (fun x n₀ => OwnM.of_none (OwnFrom.and (Own.from (MtI.own T bm gb v xs) _) (OwnFrom.and (ownFrom_below (Nat.le_refl _) (by omega)) (Own.from (fun _ A B row hs hg hr => blk_ownF hs hg hr) _)))) ?made ?assign ?body ?done ?stop
  case a1 => exact fun x n₀ => { tmps := #[.pointer (some ⟨bt, 0, none⟩), undef, .pointer none, .pointer (some ⟨T, 0, none⟩), .string x.1, .pointer (some ⟨n₀, 0, none⟩), .pointer (some ⟨bm, 0, none⟩), .pointer (some ⟨bt, 0, none⟩), .func (.func 150) #[] #[.pointer (some ⟨gb, 0, none⟩)], .string x.1, .agg x.2.c, undef, undef, undef, undef, undef, undef], defers := [] }
  case assign =>
    rintro l ⟨q, kd, md, tm, dt⟩ n₀ W rfl K hK
    simp only [Nd.c] at hK ⊢
    gi_wp2
    exact hK
  case made =>
    rintro pre x W ⟨hI, hB⟩ hT
    have hba := (Below.refl W.heap.size W).alloc (Nat.le_refl _) (.cells x.2.c 51)
    refine ⟨⟨hI.below hba, hB.alloc hB.size _, Blk.new _ _ _⟩, keeps_belowF hba, .below hba hI.2.1.lt (fun g hg => ?_)⟩
    obtain ⟨r, hr⟩ := hT
    obtain ⟨A, c, rfl, _, _, hx⟩ := hI.2.2
    obtain ⟨g2, off, cur, rfl, hB, _⟩ := hx (by rw [← hr]; simp; omega)
    cases hg
    exact hB.lt
  case body =>
    rintro l pre x n₀ W ⟨hI, hB, hXn⟩ hTl
    have hx0 : 0 < xs.length := by obtain ⟨r, hr⟩ := hTl; rw [← hr]; simp; omega
    have hpl : pre.length + 1 ≤ 1000 := by obtain ⟨r, hr⟩ := hTl; have := congrArg List.length hr; simp at this; omega
    have hxm : x ∈ xs := by obtain ⟨r, hr⟩ := hTl; rw [← hr]; simp
    have hq := HX.out.1 x hxm
    have hd := HX.out.2.1 x hxm
    have hfl : (foldMk pre).length ≤ 1000 := by
      rw [foldMk_eq HX.out.2.2 pre (by obtain ⟨r, hr⟩ := hTl; exact ⟨x :: r, by rw [← hr]; simp⟩)]
      unfold marksT
      rw [List.length_map]; omega
    have HF1 := Lib.hid (foldMk_one pre x)
    obtain ⟨q, ⟨kd, md, tm, dt⟩⟩ := x
    simp only at hq hd hXn HF1
    have x0 := hXn.cell 0
    have x1 := hXn.cell 1
    have x2 := hXn.cell 2
    have x3 := hXn.cell 3
    simp [Nd.c] at x0 x1 x2 x3
    have c0 := hI.1.1.1.cell 0
    simp at c0
    obtain ⟨pr, hpr⟩ : ∃ pr, printN ⟨kd, md, tm, dt⟩ = pr := ⟨_, rfl⟩
    rw [hpr] at HF1
    have HPR := Lib.hid (fun W' => hpr ▸ print_any W' ⟨kd, md, tm, dt⟩ hd)
    simp only [Nd.c] at HPR
    have HPU := Lib.hid (fun W' (h : SMapSP W' bm (foldMk pre)) => srtPutSP_any W' bm (foldMk pre) q pr h (by omega) hq)
    have HI := Lib.hid (And.intro hI hB)
    have hdr : Below W.heap.size W W.drew := (Below.refl _ W).drew
    clear hI hB hXn hTl hpr hd
    gi_wp2
    gi_region_with (first
      | (refine ⟨trivial, (callsIn_wide.2 (HPR.out _)).mono ?_⟩; rintro e w7 ⟨rfl, hb7⟩; have hI7 := HI.out.1.below (hdr.trans hb7); have hb7' := HI.out.2.trans ((hdr.trans hb7).mono HI.out.2.size); have c7 := hI7.1.1.1.cell 0; simp at c7)
      | (refine ⟨trivial, (callsIn_wide.2 (HPU.out w7 hI7.1.1.2)).mono ?_⟩; rintro e w8 ⟨rfl, hm8, hg8⟩))
    all_goals
      have hbb := hdr.trans hb7
      obtain ⟨cs, hBm⟩ := smapSP_blk hI7.1.1.2
      have hlv : ∀ g, v.ownBlock = some g → g < W.heap.size := fun g hg => by
        obtain ⟨A, c, rfl, _, _, h3⟩ := HI.out.1.2.2
        obtain ⟨g', off, cur, rfl, hbq, _⟩ := h3 hx0
        cases hg
        exact hbq.lt
      have hko := (keeps_belowF hbb).trans (keeps_grownF hg8 hBm)
      have hgK : KeepIt gb v W w8 := (KeepIt.below hbb HI.out.1.2.1.lt hlv).trans ⟨hg8.size, hg8.block gb hI7.1.2 (fun e => HNE.out.1 (by simpa using e.symm)), fun g hg => hg8.block g (Nat.lt_of_lt_of_le (hlv g hg) hbb.size) (fun e => HNE.out.2 hx0 g hg (by simpa using e.symm))⟩
      have HF := Lib.hid (And.intro hko (And.intro hgK (And.intro (hI7.1.1.put hm8 hg8) (hb7'.grown hg8 hb7'.size (fun k hk => by cases hk; exact HM.out)))))
      clear hm8 hg8 hko hgK hBm hbb hb7 hb7' c7 hI7 x0 x1 x2 x3 c0
      gi_wp2
      refine ⟨HF.out.1, HF.out.2.1, ⟨⟨?_, Nat.lt_of_lt_of_le HI.out.1.1.2 HF.out.1.size⟩, ?_, ?_⟩, HF.out.2.2.2⟩
      · rw [HF1.out]; exact HF.out.2.2.1
      · have := HF.out.2.1.box
        have h2 := HI.out.1.2.1
        unfold Blk at h2 ⊢
        rw [this, h2]
      · exact HI.out.1.2.2.kept (fun g cur h _ => HF.out.2.1.row g h)
  case done =>
    rintro D zs W hD hzs ⟨⟨⟨hP, hglW⟩, hgW, hLW⟩, hB⟩ hK
    have hz : zs = xs := hzs
    subst hz
    rw [foldMk_eq HX.out.2.2 zs (List.prefix_refl _)] at hP
    have q5 := hP.1.cell 0
    simp at q5
    have hD' : w.heap.size ≤ D := by omega
    have HR3 := Lib.hid (And.intro hP (And.intro hB hK))
    clear hP hB hgW hLW
    gi_wp2
    refine ⟨by simp, .inl ⟨_, _, rfl, run_takeDeferred hK, ?_⟩⟩
    refine ⟨_, results_tmp rfl _ _ _, ⟨bm, rfl, ?_, HM.out, ?_⟩⟩
    · exact HR3.out.1.2.ownF (grownBy_putObj' W D (.deferred none)) (fun r e => show ∃ o : Obj, W.heap[r]? = some o ∧ o.isCells = false from (by cases (e : some D = some r); exact ⟨_, hK, rfl⟩))
    · exact HR3.out.2.1.trans (belowK_b (w := w) (Nat.le_refl _) W D _ (.deferred none) hD' hK rfl rfl)
  case stop =>
    rintro D c pre W hD hSp h
    exact h.elim
end Go.Proofs.YteofiffbobbdmaaGreatDoor
/- archive.Marks. -/
set_option linter.unusedVariables false
set_option linter.unusedSimpArgs false
namespace Go.Proofs.YteofiffbobbdmaaGreatDoor
open Go Go.RowKit Go.Shelf
open Sw
attribute [local go_sem] Oper.semAt_some
/-- a row of marks that the call owns -/
def OwnMk (w : World) (base : Nat) (u : Value) (l : List MkE) : Prop := w.ownsRow base 91 6 u l.length (l.flatMap eCM)
theorem OwnMk.below {w w' : World} {base : Nat} {u : Value} {l : List MkE} (h : OwnMk w base u l) (hb : Below w.heap.size w w') : OwnMk w' base u l := own_kept h hb
theorem OwnMk.slv {w : World} {base : Nat} {u : Value} {l : List MkE} (h : OwnMk w base u l) : SlV w 6 eCM u l := SlV.of_own h eCM_len (by decide)
def MaI (T gb : Nat) (v : Value) (xs : List MkE) (pre : List MkE) (W : World) : Prop := gb < W.heap.size ∧ (∃ o, Blk W T 22 #[o] ∧ OwnMk W T o pre) ∧ Blk W gb 143 #[v] ∧ Lies W 177 6 eCSP v xs
theorem MaI.own (T gb : Nat) (v : Value) (xs : List MkE) : Own (MaI T gb v xs) := fun _ A B row hs hg hr => ⟨Nat.lt_of_lt_of_le hs.1 hg.size, by obtain ⟨o, h1, h2⟩ := hs.2.1; exact ⟨o, blk_ownF h1 hg hr, own_ownF h2 hg hr⟩, blk_ownF hs.2.2.1 hg hr, hs.2.2.2.ownF hg hr⟩
theorem MaI.below {T gb : Nat} {v : Value} {xs pre : List MkE} {A B : World} (hs : MaI T gb v xs pre A) (hb : Below A.heap.size A B) : MaI T gb v xs pre B := ⟨Nat.lt_of_lt_of_le hs.1 hb.size, by obtain ⟨o, h1, h2⟩ := hs.2.1; exact ⟨o, h1.below hb h1.lt, h2.below hb⟩, hs.2.2.1.below hb hs.2.2.1.lt, hs.2.2.2.below hb⟩
set_option maxRecDepth 100000 in
set_option maxHeartbeats 8000000 in
theorem marksAll_any (w : World) (bt bmt : Nat) (ts : List NE) (hT : TreeAt w bt bmt ts) (hxl : ts.length ≤ 1000) (hxp : ∀ e ∈ ts, e.1.size ≤ 90000) (hxd : ∀ e ∈ ts, e.2.data.size ≤ maxLen) :
    Calls Tryz.prog 19 #[.pointer (some ⟨bt, 0, none⟩)] w fun e w' => ∃ r, e = .returned r ∧ OwnMk w' w.heap.size r (marksT ts) ∧ Below w.heap.size w w' := by
  have b0 := Blk.new w 22 #[.slice none 0 0]
  have hB : Below w.heap.size w (w.alloc (.cells #[.slice none 0 0] 22)) := (Below.refl _ w).alloc (Nat.le_refl _) _
  have HMA := Lib.hid (marks_any _ bt bmt ts (hT.below hB) hxl hxp hxd)
  have hml : (marksT ts).length ≤ 1000 := by unfold marksT; rw [List.length_map]; exact hxl
  clear hT hxl hxp hxd
  generalize marksT ts = xs at *
  refine callsIn_wide.1 (?_ : CallsIn Fence.wide 9 _ _ _ _ _)
  refine callsIn_of_wp_marks Tryz.func19 rfl trivial ?_ rfl
  simp only [Tryz.ntmps19, List.size_toArray, List.length_cons, List.length_nil, Nat.reduceAdd, Nat.reduceSub, Array.replicate_succ, Array.replicate_zero, List.push_toArray, List.append_toArray, List.nil_append, List.cons_append]
  have H0 := Lib.hid (And.intro b0 hB); clear b0 hB
  gi_wp2
  obtain ⟨w1, hw1⟩ : ∃ w1, w.alloc (.cells #[.slice none 0 0] 22) = w1 := ⟨_, rfl⟩
  rw [hw1] at H0 HMA
  rw [hw1]
  clear hw1
  refine ⟨trivial, (callsIn_wide.2 HMA.out).mono ?_⟩
  rintro e w5 ⟨bm, rfl, hm, hbm, hb5⟩
  have HAL := Lib.hid (srtAllSP_any w5 bm xs hm)
  have H5 := Lib.hid (And.intro (H0.out.1.below hb5 H0.out.1.lt) (H0.out.2.trans (hb5.mono H0.out.2.size)))
  clear hm hb5 hbm HMA H0
  gi_wp2
  refine ⟨trivial, (callsIn_wide.2 HAL.out).mono ?_⟩
  rintro e w2 ⟨gb, v, rfl, hgb, hL, hge, hvb, hb2⟩
  have B0 := H5.out.1.below hb2 H5.out.1.lt
  have hTgb : w.heap.size ≠ gb := by have := H5.out.1.lt; omega
  have HNE := Lib.hid hTgb; clear hTgb
  have hBw := H5.out.2.trans (hb2.mono H5.out.2.size)
  have hz2 : w.heap.size < w2.heap.size := B0.lt
  clear hb2 hge HAL
  gi_wp2
  obtain ⟨T, hTe⟩ : ∃ T, T = w.heap.size := ⟨_, rfl⟩
  rw [← hTe] at B0 hBw hz2 HNE ⊢
  have HTE := Lib.hid hTe; clear hTe H5
  have hgl := hgb.lt
  refine wpIn_rangeFunc_tellW (Mine := fun _ => False) (fun _ h => h.elim) rfl (by omega) (gf := 118) (lb := #[.pointer (some ⟨gb, 0, none⟩)]) rfl trivial (enters_of Tryz.func118 (by kernel_rfl) rfl)
    (toldSP_tells 8 (by omega) gb v xs w2 hgb hL (by omega)) KeepIt.trans (keepIt_b hgl hvb) (Below.refl _ _) (fun _ => rfl)
    (fun pre W => MaI T gb v xs pre W ∧ Below T w W)
    (fun c pre W => False)
    (OwnM.of_none (OwnFrom.and (Own.from (MaI.own T gb v xs) _) (ownFrom_below (by have := HTE.out; omega) (by omega))))
    (fun c => OwnM.of_none (fun _ _ _ _ hs _ _ => hs.elim))
    ⟨⟨hgl, ⟨_, B0, World.ownsRow_nil _ _ _ _⟩, hgb, hL⟩, hBw⟩
    (fun x n₀ => { tmps := #[.pointer (some ⟨bt, 0, none⟩), undef, .pointer (some ⟨T, 0, none⟩), .string x.1, .pointer (some ⟨n₀, 0, none⟩), .pointer (some ⟨bt, 0, none⟩), .pointer (some ⟨bm, 0, none⟩), .func (.func 118) #[] #[.pointer (some ⟨gb, 0, none⟩)], .string x.1, .agg x.2.c, undef, undef, undef, undef, undef, undef, undef], defers := [] }) (fun x W => W.alloc (.cells x.2.c 75))
    (fun x n₀ pre W => MaI T gb v xs pre W ∧ Below T w W ∧ Blk W n₀ 75 x.2.c) (fun x n₀ => OwnM.of_none (OwnFrom.and (Own.from (MaI.own T gb v xs) _) (OwnFrom.and (ownFrom_below (by have := HTE.out; omega) (by omega)) (Own.from (fun _ A B row hs hg hr => blk_ownF hs hg hr) _)))) ?made ?assign ?body ?done ?stop
  case assign =>
    rintro l ⟨q, kd, md, tm, sz, sm⟩ n₀ W rfl K hK
    simp only [Pr.c] at hK ⊢
    gi_wp2
    exact hK
  case made =>
    rintro pre x W ⟨hI, hB⟩ hT
    have hba := (Below.refl W.heap.size W).alloc (Nat.le_refl _) (.cells x.2.c 75)
    obtain ⟨o, c0, _⟩ := hI.2.1
    refine ⟨⟨hI.below hba, hB.alloc (Nat.le_of_lt c0.lt) _, Blk.new _ _ _⟩, ?_, ?_⟩
    · exact keeps_belowF hba
    · exact .below hba hI.2.2.1.lt (fun g hg => by
        obtain ⟨r, hr⟩ := hT
        obtain ⟨A, c, rfl, _, _, hx⟩ := hI.2.2.2
        obtain ⟨g2, off, cur, rfl, hB, _⟩ := hx (by rw [← hr]; simp; omega)
        cases hg
        exact hB.lt)
  case body =>
    rintro l pre x n₀ W ⟨⟨hgl2, ⟨o, b1, ho⟩, hg, hL⟩, hB, hX⟩ hT
    have hx0 : 0 < xs.length := by obtain ⟨r, hr⟩ := hT; rw [← hr]; simp; omega
    have hpl : pre.length + 1 ≤ 1000 := by obtain ⟨r, hr⟩ := hT; have := congrArg List.length hr; simp at this; omega
    have x0 := hX.cell 0
    have x1 := hX.cell 1
    have x2 := hX.cell 2
    have x3 := hX.cell 3
    have x4 := hX.cell 4
    simp [Pr.c] at x0 x1 x2 x3 x4
    have m1 := b1.cell 0
    have f1 := b1.frozen 0
    simp at m1
    unfold OwnMk at ho
    obtain ⟨A3, c3, rfl, _, _, _⟩ := SlV_of_any ho
    have hTW := Nat.le_of_lt b1.lt
    have HH := Lib.hid (And.intro b1 (And.intro ho (And.intro hg (And.intro hL hB)))); clear b1 ho hg hL hB hX hT
    gi_wp2_with (gi_at_builtin; refine wpListIn_app rfl _ _ 22 rfl T 91 (.agg #[.string ⟨#[]⟩, .int .i64 0, .int .i64 0, .int .u32 0, .int .i64 0, .int .u32 0]) 6 56 Tryz.underlying22 infoMk rfl (by decide) _ pre.length _ rfl (HH.out.2.1.alloc _) W.heap.size 1 #[.string x.1, .int .i64 x.2.kind, .int .i64 x.2.mode, .int .u32 x.2.time, .int .i64 x.2.size, .int .u32 x.2.sum] 91 rfl (Blk.new _ _ _) rfl (by simp [Value.oneCell']) (by omega) (by decide) (by simp; omega) _ rfl ?_; intro g cap w5 hown1 hgrow1 hat hlt1; have hb5 := app_pre HH.out.1 HH.out.2.1 ((Below.refl _ _).alloc (Nat.le_refl _) _) hgrow1 (by decide); have c5 := hb5.cell 0; have f5 := hb5.frozen 0; simp at c5)
    have hA := app_body HH.out.1 HH.out.2.1 ((Below.refl _ _).alloc (Nat.le_refl _) _) hgrow1 hown1 (by omega) (Nat.le_refl _) (by decide)
    have hK := hA.keepIt HH.out.2.2.1 HH.out.2.2.2.1 hx0 (by decide) HNE.out.symm (by decide) (by decide)
    refine ⟨hA.keeps, hK, ⟨Nat.lt_of_lt_of_le hgl2 hA.below.size, ⟨_, hA.box, ?_⟩, hA.far _ _ _ HH.out.2.2.1 (by decide) HNE.out.symm, HH.out.2.2.2.1.kept (fun g cur h _ => hK.row g h)⟩, HH.out.2.2.2.2.trans hA.below⟩
    have := hA.own
    unfold OwnMk
    rw [List.length_append, List.flatMap_append]
    simpa [eCM] using this
  case done =>
    rintro D zs W hD hzs ⟨⟨_, ⟨o, b1, ho⟩, _, _⟩, hB⟩ hK
    have hz : zs = xs := hzs
    subst hz
    have m1 := b1.cell 0
    have f1 := b1.frozen 0
    simp at m1
    unfold OwnMk at ho
    obtain ⟨A3, c3, rfl, _, _, _⟩ := SlV_of_any ho
    have hD' : w.heap.size ≤ D := by have := HTE.out; omega
    have HC := Lib.hid (And.intro b1 (And.intro ho (And.intro hB hK))); clear b1 ho hB hK hzs
    gi_wp2
    have hK2 : (W.setCell ⟨T, 0, none⟩ (.slice A3 zs.length c3)).heap[D]? = some (Obj.deferred (some [])) := (KeepsOthers.setCell W ⟨T, 0, none⟩ (.slice A3 zs.length c3)).same D _ HC.out.2.2.2 rfl
    have hR2 : Blk (W.setCell ⟨T, 0, none⟩ (.slice A3 zs.length c3)) T 22 #[.slice A3 zs.length c3] := HC.out.1.put 0 (.slice A3 zs.length c3)
    have hO2 : OwnMk (W.setCell ⟨T, 0, none⟩ (.slice A3 zs.length c3)) T (.slice A3 zs.length c3) zs := HC.out.2.1.kept (grown_put (grown_refl W (some T)) 0 _) (.inr (own_ne_blk HC.out.2.1 HC.out.1 (by decide)))
    have hB2 := HC.out.2.2.1.setCell (p := ⟨T, 0, none⟩) (Nat.le_refl _) (.slice A3 zs.length c3)
    have hw := fun r (e : some D = some r) => show ∃ o : Obj, (W.setCell ⟨T, 0, none⟩ (.slice A3 zs.length c3)).heap[r]? = some o ∧ o.isCells = false from (by cases e; exact ⟨_, hK2, rfl⟩)
    refine ⟨by simp, .inl ⟨_, _, rfl, run_takeDeferred hK2, ?_⟩⟩
    refine ⟨_, res_cell_sl rfl _ _ T 22 (.slice A3 zs.length c3) rfl (blk_ownF hR2 (grownBy_putObj' _ D (.deferred none)) hw) Tryz.underlying22, ⟨_, rfl, ?_, ?_⟩⟩
    · rw [← HTE.out]
      exact own_ownF hO2 (grownBy_putObj' _ D (.deferred none)) hw
    · exact (hB2.mono (by have := HTE.out; omega)).trans (belowK_b (w := w) (Nat.le_refl _) _ D _ _ hD' hK2 rfl rfl)
  case stop =>
    rintro D c pre W hD hSp h
    exact h.elim
end Go.Proofs.YteofiffbobbdmaaGreatDoor
/- The walk of DetectStates. -/
set_option linter.unusedVariables false
set_option linter.unusedSimpArgs false
namespace Go.Proofs.YteofiffbobbdmaaGreatDoor
open Go Go.ChangeShapes Go.WideShapes Go.ChangeAt Go.RowKit
open Go.ChangeMaps (open_string shut_string)
open Sw
set_option maxRecDepth 100000 in
set_option maxHeartbeats 4000000 in
theorem detect_lives (w : World) : Calls Tryz.prog 8 #[] w fun e w' => e = .returned (.bool true) ∧ Below w.heap.size w w' := by
  have h1 := Lib.hid (fun W => state_any W ⟨0, 0, 0, 0, 0⟩ false ⟨1, 0, 0, ⟨#[]⟩⟩ (by show 0 ≤ maxLen; omega))
  have h2 := Lib.hid (fun W => state_any W ⟨0, 0, 0, 0, 0⟩ false ⟨0, 0, 0, ⟨#[]⟩⟩ (by show 0 ≤ maxLen; omega))
  rw [show stateN ⟨0, 0, 0, 0, 0⟩ false ⟨1, 0, 0, ⟨#[]⟩⟩ = 1 by rfl] at h1
  rw [show stateN ⟨0, 0, 0, 0, 0⟩ false ⟨0, 0, 0, ⟨#[]⟩⟩ = 0 by rfl] at h2
  unfold Pr.c Nd.c at h1 h2
  go_enter Tryz.func8, Tryz.ntmps8
  go_wp2_with fail
  refine (h1.out _).mono ?_
  rintro e w1 ⟨rfl, hb1⟩
  go_wp2_with fail
  refine (h2.out _).mono ?_
  rintro e w2 ⟨rfl, hb2⟩
  go_wp2_with fail
  go_ret
  exact ⟨rfl, hb1.trans (hb2.mono hb1.size)⟩
end Go.Proofs.YteofiffbobbdmaaGreatDoor
