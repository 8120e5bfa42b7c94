/- Several texts, joined for the limit of sixty files; each one opens with its own comment. -/
import Derived.Test.YtihiakkeloejlaaGreatDoorJoin12
import Derived.Test.YtihiakkeloejlaaGreatDoorJoin13
import Derived.Test.YtihiakkeloejlaaGreatDoorJoin25
import Derived.Test.YtihiakkeloejlaaGreatDoorJoin17
import Derived.Stop.RegionWithIn
import Derived.Test.YtihiakkeloejlaaGreatDoorJoin24
import Derived.Laws.EntriesVeiled
import Derived.Test.YtihiakkeloejlaaGreatDoorJoin5
import Derived.StillTail
import Derived.StillTactics
/- diff.nodes: a tree as a map. -/
set_option linter.unusedVariables false
set_option linter.unusedSimpArgs false
namespace Go.Proofs.YtihiakkeloejlaaGreatDoor
open Go Go.RowKit Go.Shelf
open Sw
attribute [local go_sem] Oper.semAt_some
theorem SMapSN.ownFD {W W' : World} {row : Option Nat} {bm : Nat} {X : List NE} (h : SMapSN W bm X) (hg : W.grownBy W' row) (hr : ∀ r, row = some r → ∃ o : Obj, W.heap[r]? = some o ∧ o.isCells = false) : SMapSN W' bm X := by
  obtain ⟨v, hb, ho⟩ := h.row
  exact ⟨⟨v, blk_ownF hb hg hr, own_ownF ho hg hr⟩, h.up, h.ok⟩
theorem smapSN_blkD {w : World} {bm : Nat} {X : List NE} (h : SMapSN w bm X) : ∃ cs, Blk w bm 116 cs := by
  obtain ⟨v, hb, _⟩ := h.row
  exact ⟨_, hb⟩
/-- the map of prints, and its box -/
def NdI (T bm : Nat) (X : List NE) (W : World) : Prop := Blk W T 66 #[.pointer (some ⟨bm, 0, none⟩)] ∧ SMapSN W bm X
theorem NdI.below {T bm : Nat} {X : List NE} {A B : World} (h : NdI T bm X A) (hb : Below A.heap.size A B) : NdI T bm X B := ⟨h.1.below hb h.1.lt, h.2.below hb⟩
theorem NdI.ownF {T bm : Nat} {X : List NE} {A B : World} {row : Option Nat} (h : NdI T bm X A) (hg : A.grownBy B row) (hr : ∀ r, row = some r → ∃ o : Obj, A.heap[r]? = some o ∧ o.isCells = false) : NdI T bm X B := ⟨blk_ownF h.1 hg hr, h.2.ownFD hg hr⟩
theorem NdI.put {T bm : Nat} {X Y : List NE} {A B : World} (h : NdI T bm X A) (hm : SMapSN B bm Y) (hg : A.grownBy B (some bm)) : NdI T bm Y B := by
  obtain ⟨cs, hB⟩ := smapSN_blkD h.2
  exact ⟨h.1.grown hg (fun e => by have e' : T = bm := by simpa using e
                                   subst e'; exact Blk.other h.1 hB (by decide) rfl), hm⟩
/-- nodes put one by one -/
def foldNd (pre : List NE) : List NE := pre.foldl (fun X e => putN ordS e.1 e.2 X) []
theorem foldNd_one (pre : List NE) (x : NE) : foldNd (pre ++ [x]) = putN ordS x.1 x.2 (foldNd pre) := by unfold foldNd; rw [List.foldl_append]; rfl
theorem put_endN {X : List NE} {p : ByteArray} (h : ∀ e ∈ X, ordS e.1 p < 0) (v : Nd) (hu : Up ordS X) : putN ordS p v X = X ++ [(p, v)] := by
  rw [put_filter ordS_ord p v X hu, List.filter_eq_self.2 (fun e he => by simpa using h e he), List.filter_eq_nil_iff.2 (fun e he => by have := h e he; simp; omega)]
theorem foldNd_eq {xs : List NE} (hu : Up ordS xs) : ∀ (pre : List NE), pre <+: xs → foldNd pre = pre := by
  intro pre hp
  obtain ⟨r, rfl⟩ := hp
  have key : ∀ (n : Nat), n ≤ pre.length → foldNd (pre.take n) = pre.take n := by
    intro n
    induction n with
    | zero => intro _; rfl
    | succ n ih =>
      intro hn
      rw [List.take_succ_eq_append_getElem (by omega), foldNd_one, ih (by omega)]
      have hup : Up ordS (pre.take (n + 1)) := (hu.sublist (List.sublist_append_left pre r)).sublist (List.take_sublist _ _)
      rw [List.take_succ_eq_append_getElem (by omega)] at hup
      have hpw := List.pairwise_append.1 hup
      rw [put_endN (fun e he => hpw.2.2 e he _ (List.mem_cons_self ..)) _ hpw.1]
  have := key pre.length (Nat.le_refl _)
  rwa [List.take_length] at this
/-- words of a tree put into the map -/
def NtI (T bm : Nat) (gb : Nat) (v : Value) (xs : List NE) (pre : List NE) (W : World) : Prop :=
  (NdI T bm (foldNd pre) W ∧ gb < W.heap.size) ∧ Blk W gb 95 #[v] ∧ Lies W 101 5 eCSN v xs
theorem NtI.own (T bm : Nat) (gb : Nat) (v : Value) (xs : List NE) : Own (NtI T bm gb v xs) := fun _ A C row hs hg hr => ⟨⟨hs.1.1.ownF hg hr, Nat.lt_of_lt_of_le hs.1.2 hg.size⟩, blk_ownF hs.2.1 hg hr, hs.2.2.ownF hg hr⟩
theorem NtI.below {T bm gb : Nat} {v : Value} {xs pre : List NE} {A B : World} (hs : NtI T bm gb v xs pre A) (hb : Below A.heap.size A B) : NtI T bm gb v xs pre B := ⟨⟨hs.1.1.below hb, Nat.lt_of_lt_of_le hs.1.2 hb.size⟩, hs.2.1.below hb hs.2.1.lt, hs.2.2.below hb⟩
set_option maxRecDepth 100000 in
set_option maxHeartbeats 8000000 in
theorem nodes_any (w : World) (bt bmt : Nat) (xs : List NE) (hT : TreeAt w bt bmt xs) (hxl : xs.length ≤ 1000) (hxp : ∀ e ∈ xs, e.1.size ≤ 90000) (hxd : ∀ e ∈ xs, e.2.data.size ≤ maxLen) :
    Calls Tryz.prog 32 #[.pointer (some ⟨bt, 0, none⟩)] w fun e w' => ∃ bm, e = .returned (.pointer (some ⟨bm, 0, none⟩)) ∧ SMapSN w' bm xs ∧ w.heap.size ≤ bm ∧ Below w.heap.size w w' := by
  refine callsIn_wide.1 (?_ : CallsIn Fence.wide 9 _ _ _ _ _)
  refine callsIn_of_wp_marks Tryz.func32 rfl trivial ?_ rfl
  simp only [Tryz.ntmps32, List.size_toArray, List.length_cons, List.length_nil, Nat.reduceAdd, Nat.reduceSub, Array.replicate_succ, Array.replicate_zero, List.push_toArray, List.append_toArray, List.nil_append, List.cons_append]
  have HN := Lib.hid (srtNewSN_any w)
  have H0 := Lib.hid hT
  have HX := Lib.hid (And.intro hxp (And.intro hxd hT.map.up))
  clear hT hxp hxd
  gi_wp2
  refine ⟨trivial, (callsIn_wide.2 HN.out).mono ?_⟩
  rintro e w1 ⟨bm, rfl, hm, hbm, hb1⟩
  have hba : Below w1.heap.size w1 (w1.alloc (.cells #[.pointer (some ⟨bm, 0, none⟩)] 66)) := (Below.refl _ w1).alloc (Nat.le_refl _) _
  have hb2 := hb1.trans (hba.mono hb1.size)
  have H1 := Lib.hid (And.intro (show NdI w1.heap.size bm [] _ from ⟨Blk.new w1 _ _, hm.below hba⟩) (And.intro hb2 (H0.out.below hb2)))
  have HM := Lib.hid hbm
  obtain ⟨W1, hW1⟩ : ∃ W1, w1.alloc (.cells #[.pointer (some ⟨bm, 0, none⟩)] 66) = W1 := ⟨_, rfl⟩
  obtain ⟨T, hTe⟩ : ∃ T, w1.heap.size = T := ⟨_, rfl⟩
  rw [hW1, hTe] at H1
  have HW1 := Lib.hid (And.intro hW1 hTe)
  clear hba hb2 hb1 hbm hm hW1 hTe HN H0
  gi_wp2
  rw [HW1.out.1, HW1.out.2]
  clear HW1
  refine ⟨trivial, (callsIn_wide.2 (treeAll_any W1 bt bmt xs H1.out.2.2)).mono ?_⟩
  rintro e w6 ⟨gb, v, rfl, hgb, hL, hge, hvb, hb6⟩
  have hP6 := H1.out.1.below hb6
  have hB6 := H1.out.2.1.trans (hb6.mono H1.out.2.1.size)
  have hgl := hgb.lt
  obtain ⟨cs0, hcs0⟩ := smapSN_blkD hP6.2
  have hbmgb : bm ≠ gb := fun e => by subst e; exact Blk.other hcs0 hgb (by decide) rfl
  have hbmv : 0 < xs.length → ∀ g, v.ownBlock = some g → bm ≠ g := fun h0 g hg e => by
    subst e
    obtain ⟨A, c, rfl, _, _, h3⟩ := hL
    obtain ⟨g', off, cur, rfl, hb, _⟩ := h3 h0
    cases hg
    exact Blk.other hcs0 hb (by decide) rfl
  have HNE := Lib.hid (And.intro hbmgb hbmv)
  have hz6 := hB6.size
  clear hbmgb hbmv hcs0 hb6 hge H1
  gi_wp2
  refine wpIn_rangeFunc_tellW (Mine := fun _ => False) (fun _ h => h.elim) rfl (by omega) (gf := 126) (lb := #[.pointer (some ⟨gb, 0, none⟩)]) rfl trivial (enters_of Tryz.func126 (by kernel_rfl) rfl)
    (toldSN_tells 8 (by omega) gb v xs w6 hgb hL (by omega)) KeepIt.trans (keepIt_b hgl hvb) (Below.refl _ _) (fun _ => rfl)
    (fun pre W => NtI T bm gb v xs pre W ∧ Below w.heap.size w W)
    (fun c pre W => False)
    (OwnM.of_none (OwnFrom.and (Own.from (NtI.own T bm gb v xs) _) (ownFrom_below (Nat.le_refl _) (by omega))))
    (fun c => OwnM.of_none (fun _ _ _ _ hs _ _ => hs.elim))
    ⟨⟨⟨hP6, hgl⟩, hgb, hL⟩, hB6⟩
    ?a1 (fun x W => W.alloc (.cells x.2.c 54))
    (fun x n₀ pre W => NtI T bm gb v xs pre W ∧ Below w.heap.size w W ∧ Blk W n₀ 54 x.2.c) (fun x n₀ => OwnM.of_none (OwnFrom.and (Own.from (NtI.own T bm gb v xs) _) (OwnFrom.and (ownFrom_below (Nat.le_refl _) (by omega)) (Own.from (fun _ A B row hs hg hr => blk_ownF hs hg hr) _)))) ?made ?assign ?body ?done ?stop
  case assign =>
    intro l x n0 W hn K hK
    simp only [Nd.c]
    gi_wp2
    exact hK
  case made =>
    rintro pre x W ⟨hI, hB⟩ hT
    have hba := (Below.refl W.heap.size W).alloc (Nat.le_refl _) (.cells x.2.c 54)
    refine ⟨⟨hI.below hba, hB.alloc hB.size _, Blk.new _ _ _⟩, keeps_belowF hba, .below hba hI.2.1.lt (fun g hg => ?_)⟩
    obtain ⟨r, hr⟩ := hT
    obtain ⟨A, c, rfl, _, _, hx⟩ := hI.2.2
    obtain ⟨g2, off, cur, rfl, hB, _⟩ := hx (by rw [← hr]; simp; omega)
    cases hg
    exact hB.lt
  case body =>
    rintro l pre x n₀ W ⟨hI, hB, hXn⟩ hTl
    have hx0 : 0 < xs.length := by obtain ⟨r, hr⟩ := hTl; rw [← hr]; simp; omega
    have hpl : pre.length + 1 ≤ 1000 := by obtain ⟨r, hr⟩ := hTl; have := congrArg List.length hr; simp at this; omega
    have hxm : x ∈ xs := by obtain ⟨r, hr⟩ := hTl; rw [← hr]; simp
    have hq := HX.out.1 x hxm
    have hd := HX.out.2.1 x hxm
    have hfl : (foldNd pre).length ≤ 1000 := by
      rw [foldNd_eq HX.out.2.2 pre (by obtain ⟨r, hr⟩ := hTl; exact ⟨x :: r, by rw [← hr]; simp⟩)]
      omega
    have HF1 := Lib.hid (foldNd_one pre x)
    obtain ⟨q, ⟨kd, md, tm, dt⟩⟩ := x
    simp only at hq hd hXn HF1
    have x0 := hXn.cell 0
    have x1 := hXn.cell 1
    have x2 := hXn.cell 2
    have x3 := hXn.cell 3
    simp [Nd.c] at x0 x1 x2 x3
    have c0 := hI.1.1.1.cell 0
    simp at c0
    have HPU := Lib.hid (srtPutSN_any W bm (foldNd pre) q ⟨kd, md, tm, dt⟩ hI.1.1.2 (by omega) hq)
    simp only [Nd.c] at HPU
    have HI := Lib.hid (And.intro hI hB)
    clear hI hB hXn hTl hd
    gi_wp2
    refine ⟨trivial, (callsIn_wide.2 HPU.out).mono ?_⟩
    rintro e w8 ⟨rfl, hm8, hg8⟩
    obtain ⟨cs, hBm⟩ := smapSN_blkD HI.out.1.1.1.2
    have hlv : ∀ g, v.ownBlock = some g → g < W.heap.size := fun g hg => by
      obtain ⟨A, c, rfl, _, _, h3⟩ := HI.out.1.2.2
      obtain ⟨g', off, cur, rfl, hbq, _⟩ := h3 hx0
      cases hg
      exact hbq.lt
    have hko := keeps_grownF hg8 hBm
    have hgK : KeepIt gb v W w8 := ⟨hg8.size, hg8.block gb HI.out.1.1.2 (fun e => HNE.out.1 (by simpa using e.symm)), fun g hg => hg8.block g (hlv g hg) (fun e => HNE.out.2 hx0 g hg (by simpa using e.symm))⟩
    have HF := Lib.hid (And.intro hko (And.intro hgK (And.intro (HI.out.1.1.1.put hm8 hg8) (HI.out.2.grown hg8 HI.out.2.size (fun k hk => by cases hk; exact HM.out)))))
    clear hm8 hg8 hko hgK hBm x0 x1 x2 x3 c0 HPU
    gi_wp2
    refine ⟨HF.out.1, HF.out.2.1, ⟨⟨?_, Nat.lt_of_lt_of_le HI.out.1.1.2 HF.out.1.size⟩, ?_, ?_⟩, HF.out.2.2.2⟩
    · rw [HF1.out]; exact HF.out.2.2.1
    · have := HF.out.2.1.box
      have h2 := HI.out.1.2.1
      unfold Blk at h2 ⊢
      rw [this, h2]
    · exact HI.out.1.2.2.kept (fun g cur h _ => HF.out.2.1.row g h)
  case done =>
    rintro D zs W hD hzs ⟨⟨⟨hP, hglW⟩, hgW, hLW⟩, hB⟩ hK
    have hz : zs = xs := hzs
    subst hz
    rw [foldNd_eq HX.out.2.2 zs (List.prefix_refl _)] at hP
    have q5 := hP.1.cell 0
    simp at q5
    have hD' : w.heap.size ≤ D := by omega
    have HR3 := Lib.hid (And.intro hP (And.intro hB hK))
    clear hP hB hgW hLW
    gi_wp2
    refine ⟨by simp, .inl ⟨_, _, rfl, run_takeDeferred hK, ?_⟩⟩
    refine ⟨_, results_tmp rfl _ _ _, ⟨bm, rfl, ?_, HM.out, ?_⟩⟩
    · exact HR3.out.1.2.ownFD (grownBy_putObj' W D (.deferred none)) (fun r e => show ∃ o : Obj, W.heap[r]? = some o ∧ o.isCells = false from (by cases (e : some D = some r); exact ⟨_, hK, rfl⟩))
    · exact HR3.out.2.1.trans (belowK_b (w := w) (Nat.le_refl _) W D _ (.deferred none) hD' hK rfl rfl)
  case stop =>
    rintro D c pre W hD hSp h
    exact h.elim
end Go.Proofs.YtihiakkeloejlaaGreatDoor
/- sorted.Join over string, swingle/api.Node: the call. -/
set_option linter.unusedVariables false
set_option linter.unusedSimpArgs false
namespace Go.Proofs.YtihiakkeloejlaaGreatDoor
open Go Go.RowKit Go.Shelf
open Sw
/-- a slice's block, if it has one, holds a row of te -/
def RowIn (W : World) (te : TypeId) (v : Value) : Prop := ∀ g, v.ownBlock = some g → ∃ cs, Blk W g te cs
theorem RowIn.of_own {w : World} {base : Nat} {e : TypeId} {size n : Nat} {v : Value} {xs : List Value} (h : w.ownsRow base e size v n xs) : RowIn w e v := by
  intro g hg
  rcases h.2 with ⟨rfl, _⟩ | ⟨g', cap, cur, rfl, _, hh, _⟩
  · cases hg
  · cases hg
    exact ⟨_, hh⟩
theorem RowIn.below {W W' : World} {te : TypeId} {v : Value} (h : RowIn W te v) (hb : Below W.heap.size W W') : RowIn W' te v := fun g hg => by
  obtain ⟨cs, hc⟩ := h g hg
  exact ⟨cs, hc.below hb hc.lt⟩
theorem RowIn.lt {W : World} {te : TypeId} {v : Value} (h : RowIn W te v) : ∀ g, v.ownBlock = some g → g < W.heap.size := fun g hg => by
  obtain ⟨cs, hc⟩ := h g hg
  exact hc.lt
/-- an iterator over two maps side by side -/
def JoinOwnSN (xs ys : List (ByteArray × Nd)) (w : World) (e : Ending) (w' : World) : Prop :=
  ∃ b1 b2 b3 v1 v2, e = .returned (.func (.func 52) #[] #[.pointer (some ⟨b1, 0, none⟩), .pointer (some ⟨b2, 0, none⟩), .pointer (some ⟨b3, 0, none⟩)]) ∧
    Blk w' b1 95 #[v1] ∧ Blk w' b2 95 #[v2] ∧ Blk w' b3 87 #[ordFSN] ∧ Lies w' 101 5 eCSN v1 xs ∧ Lies w' 101 5 eCSN v2 ys ∧
    RowIn w' 101 v1 ∧ RowIn w' 101 v2 ∧ Below w.heap.size w w'
set_option maxRecDepth 100000 in
set_option maxHeartbeats 2000000 in
theorem joinOwnSN_any (w : World) (ba bb : Nat) (xs ys : List (ByteArray × Nd)) (h1 : SMapSN w ba xs) (h2 : SMapSN w bb ys) :
    Calls Tryz.prog 31 #[.pointer (some ⟨ba, 0, none⟩), .pointer (some ⟨bb, 0, none⟩)] w (JoinOwnSN xs ys w) := by
  have hnf : ∀ W, (binOp .eql 87 ordFSN Value.nilFunc).run Tryz.prog W = .ok (.bool false) W := fun W => by kernel_rfl
  have HR1 := Lib.hid (srtRowsSN_any w ba xs h1)
  go_enter Tryz.func31, Tryz.ntmps31
  go_wp2_with fail
  refine HR1.out.mono ?_
  rintro e w1 ⟨v1, rfl, ho1, m1, hw1⟩
  have hb1 : Below w.heap.size w w1 := by rw [hw1]; exact below_drewN (Below.refl _ _) m1
  have hL1 := (Lies.of_own ho1 eCSN_len (by decide)).below hb1
  have hlt1 := (RowIn.of_own ho1).below hb1
  obtain ⟨A1, c1, rfl, _, _, _⟩ := SlV_of_any ho1
  clear hw1 m1 ho1
  have hb2 : Below w.heap.size w ((w1.alloc (.cells #[.slice A1 xs.length c1] 95)).alloc (.cells #[ordFSN] 87)) := (hb1.alloc hb1.size _).alloc (Nat.le_trans hb1.size (by simp)) _
  have hbb : Below w1.heap.size w1 ((w1.alloc (.cells #[.slice A1 xs.length c1] 95)).alloc (.cells #[ordFSN] 87)) := ((Below.refl _ _).alloc (Nat.le_refl _) _).alloc (by simp) _
  have hB1 := blk_fst w1 #[.slice A1 xs.length c1] 95 (.cells #[ordFSN] 87)
  have hB3 := blk_snd w1 (.cells #[.slice A1 xs.length c1] 95) #[ordFSN] 87
  have HR2 := Lib.hid (srtRowsSN_any _ bb ys (h2.below hb2))
  have H1 := Lib.hid (And.intro hB1 (And.intro hB3 (And.intro (hL1.below hbb) (And.intro (hlt1.below hbb) hb2)))); clear hB1 hB3 hL1 hlt1 hb2 hbb hb1 HR1 h1 h2
  go_wp2_with fail
  refine HR2.out.mono ?_
  rintro e w2 ⟨v2, rfl, ho2, m2, hw2⟩
  obtain ⟨w3, hw3⟩ : ∃ w3, (w1.alloc (.cells #[.slice A1 xs.length c1] 95)).alloc (.cells #[ordFSN] 87) = w3 := ⟨_, rfl⟩
  rw [hw3] at H1 ho2 hw2
  obtain ⟨T, hT⟩ : ∃ T, w1.heap.size = T := ⟨_, rfl⟩
  rw [hT] at H1
  have hz3 : w3.heap.size = T + 1 + 1 := by rw [← hw3]; simp [hT]
  have hb2 : Below w3.heap.size w3 w2 := by rw [hw2]; exact below_drewN (Below.refl _ _) m2
  have hL2 := (Lies.of_own ho2 eCSN_len (by decide)).below hb2
  have hlt2 := (RowIn.of_own ho2).below hb2
  obtain ⟨A2, c2, rfl, _, _, _⟩ := SlV_of_any ho2
  have hB1 := H1.out.1.below hb2 H1.out.1.lt
  have hB3 := H1.out.2.1.below hb2 H1.out.2.1.lt
  have hL1 := H1.out.2.2.1.below hb2
  have hlt1 := H1.out.2.2.2.1.below hb2
  have hbw := H1.out.2.2.2.2.trans (hb2.mono H1.out.2.2.2.2.size)
  clear hw2 m2 ho2 hw3
  have hba := (Below.refl w2.heap.size w2).alloc (Nat.le_refl _) (.cells #[.slice A2 ys.length c2] 95)
  have hpst : JoinOwnSN xs ys w (.returned (.func (.func 52) #[] #[.pointer (some ⟨T, 0, none⟩), .pointer (some ⟨w2.heap.size, 0, none⟩), .pointer (some ⟨T + 1, 0, none⟩)])) (w2.alloc (.cells #[.slice A2 ys.length c2] 95)) :=
    ⟨T, w2.heap.size, T + 1, .slice A1 xs.length c1, .slice A2 ys.length c2, rfl, hB1.below hba hB1.lt, Blk.new _ _ _, hB3.below hba hB3.lt, hL1.below hba, hL2.below hba, hlt1.below hba, hlt2.below hba, hbw.trans (hba.mono hbw.size)⟩
  have c3 := (hB3.below hba hB3.lt).cell 0
  simp at c3
  have HF := Lib.hid hpst
  clear hpst hB1 hB3 hL1 hL2 hlt1 hlt2 hbw hba hb2 HR2 H1
  go_wp2_with fail
  go_ret
  exact HF.out
end Go.Proofs.YtihiakkeloejlaaGreatDoor
/- A region that draws its order, walked in an order of one's own: an operation that yields the same in all worlds of a class may go first; any other one must be the only one that is ready. Over any program. -/
set_option linter.unusedVariables false
set_option linter.unusedSimpArgs false
namespace Sw
open Go
/-- Q where the region goes on, else nothing -/
def OnlyN (Q : Exit → Act → World → Prop) : Exit → Act → World → Prop
  | .normal, a, w => Q .normal a w
  | _, _, _ => False
theorem OnlyN.imp {Q : Exit → Act → World → Prop} : ∀ (e : Exit) (a : Act) (w : World), OnlyN Q e a w → Q e a w := fun e a w h => by
  cases e <;> first | exact h | exact (h : False).elim
theorem OnlyN.out {Q : Exit → Act → World → Prop} : ¬ LetsOut (OnlyN Q) := fun ⟨_, _, h⟩ => h
section
variable {P : Program} {ops : Array Oper} {md : Region.Mode} {Q : Exit → Act → World → Prop} {C : World → Prop}
def anyC (P : Program) (md : Region.Mode) (ops : Array Oper) (C : World → Prop) (Q : Exit → Act → World → Prop) : Nat → Array Bool → Act → World → Prop
  | 0, listed, a, w => C w ∧ Region.ready md ops listed = [] ∧ Q .normal a w
  | f + 1, listed, a, w => C w ∧ Region.ready md ops listed ≠ [] ∧ ∀ i ∈ Region.ready md ops listed, wpOp P ops (OnlyN Q) i (anyC P md ops C Q f (listed.setIfInBounds i true)) a w
theorem anyC_C : ∀ {f : Nat} {listed : Array Bool} {a : Act} {w : World}, anyC P md ops C Q f listed a w → C w
  | 0, _, _, _, h => h.1
  | _ + 1, _, _, _, h => h.1
theorem wpAny_of_anyC : ∀ (f : Nat) (listed : Array Bool) (a : Act) (w : World), anyC P md ops C Q f listed a w → wpAny P md ops (OnlyN Q) f listed a w
  | 0, _, _, _, h => h.2
  | f + 1, listed, a, w, h => ⟨fun h0 => absurd h0 h.2.1, fun i hi => wpOp_mono (fun a w => wpAny_of_anyC f _ a w) (h.2.2 i hi)⟩
theorem upon_put {oj : Oper} {K K' : Act → World → Prop} {a b : Act} (hK : ∀ ds u w', K (({ b with defers := ds ++ b.defers } : Act).put oj.dst u) w' → K' (({ a with defers := ds ++ a.defers } : Act).put oj.dst u) w') : ∀ r : Result Next, oj.upon P b K (OnlyN Q) r → oj.upon P a K' (OnlyN Q) r := fun r h => by
  have h0 : ∀ u w', K (b.put oj.dst u) w' → K' (a.put oj.dst u) w' := fun u w' => hK [] u w'
  cases r with
  | ok n w' =>
    cases n <;> simp only [Oper.upon] at h ⊢
    case value u => exact h0 u w' h
    case skip => exact h0 _ w' h
    case defer d => exact hK [d] _ w' h
    case enter f args => exact Calls.mono h (fun e w'' he => by cases e <;> first | exact h0 _ _ he | exact he)
    case row row args => exact Rows.mono h (fun v w'' he => h0 _ _ he)
  | halt x w' => cases x <;> simp only [Oper.upon] at h ⊢ <;> exact h
theorem wpOp_put {j : Nat} {oi oj : Oper} {v : Value} {a : Act} {w : World} (hj : ops[j]? = some oj) (hap : oi.apart ops oj = true) (hsj : ∀ cs b, oj.op ≠ .select cs b)
    {K K' : Act → World → Prop} (hK : ∀ ds u w', K ((({ a with defers := ds ++ a.defers } : Act).put oj.dst u).put oi.dst v) w' → K' (({ a with defers := ds ++ a.defers } : Act).put oj.dst u) w')
    (h : wpOp P ops (OnlyN Q) j K (a.put oi.dst v) w) : wpOp P ops (OnlyN Q) j K' a w := by
  obtain ⟨h1, h2, h3⟩ := Oper.apart_spec hap
  unfold wpOp at *
  simp only [hj] at *
  rw [wanted_put oj a oi.dst v h1] at h
  have hpd : ∀ (ds : List Deferred) (b : Act) (x : Option Tmp) (u : Value), ({ b.put x u with defers := ds } : Act) = ({ b with defers := ds } : Act).put x u := fun ds b x u => by cases x <;> rfl
  have hdd : ∀ (b : Act) (x : Option Tmp) (u : Value), (b.put x u).defers = b.defers := fun b x u => by cases x <;> rfl
  split
  · rename_i hw
    rw [if_pos hw] at h
    rcases h with h | h
    · left
      unfold Oper.wp at *
      rw [execOp_put oj hsj a oi.dst v h1] at h
      refine upon_put (fun ds u w' hk => hK ds u w' ?_) _ h
      rw [hpd, hdd] at hk
      rw [Act.put_comm _ v u h2] at hk
      exact hk
    · exact absurd h.2 OnlyN.out
  · rename_i hw
    rw [if_neg hw] at h
    refine hK [] undef w ?_
    rw [← Act.put_comm _ v undef h2]
    exact h
theorem anyC_first {i : Nat} {oi : Oper} {v : Value} (hi : ops[i]? = some oi) (hsel : ∀ (j : Nat) (o : Oper) cs b, ops[j]? = some o → o.op ≠ .select cs b) :
    ∀ (f : Nat) (listed : Array Bool) (a : Act) (w : World),
      (∀ j oj, ops[j]? = some oj → j ≠ i → listed.getD j true = false → (∀ e ∈ oj.after, Region.binds md e = true → e.on ≠ i) → oi.apart ops oj = true) →
      i ∈ Region.ready md ops listed → C w → (∀ W, C W → ∃ v', YieldsAt P ops W oi v' a ∧ a.put oi.dst v' = a.put oi.dst v) →
      anyC P md ops C Q f (listed.setIfInBounds i true) (a.put oi.dst v) w → anyC P md ops C Q (f + 1) listed a w := by
  intro f
  induction f with
  | zero =>
    intro listed a w _ hr hC hy H
    refine ⟨hC, fun h => (by rw [h] at hr; cases hr), fun j hj => ?_⟩
    by_cases hji : j = i
    · subst hji
      obtain ⟨v', hy1, hy2⟩ := hy w hC
      exact wpOp_of_stOp (fun a' h' => h') (hy1.stOp (K := fun a' => anyC P md ops C Q 0 (listed.setIfInBounds j true) a' w) hi (by rw [hy2]; exact H))
    · have := ready_mono hj hji
      rw [H.2.1] at this
      cases this
  | succ f ih =>
    intro listed a w hfree hr hC hy H
    have hun := (mem_ready.1 hr).1
    refine ⟨hC, fun h => (by rw [h] at hr; cases hr), fun j hj => ?_⟩
    by_cases hji : j = i
    · subst hji
      obtain ⟨v', hy1, hy2⟩ := hy w hC
      exact wpOp_of_stOp (fun a' h' => h') (hy1.stOp (K := fun a' => anyC P md ops C Q (f + 1) (listed.setIfInBounds j true) a' w) hi (by rw [hy2]; exact H))
    · have h1 := H.2.2 j (ready_mono hj hji)
      obtain ⟨hjun, oj, hoj, hall⟩ := mem_ready.1 hj
      have hnot : ∀ e ∈ oj.after, Region.binds md e = true → e.on ≠ i := fun e he hb heq => by
        have h1 := hall e he hb
        rw [heq, getD_both hun] at h1
        cases h1
      have hap := hfree j oj hoj hji hjun hnot
      have hap3 := (Oper.apart_spec hap)
      refine wpOp_put hoj hap (fun cs b => hsel j oj cs b hoj) (fun ds u w' hk => ?_) h1
      refine ih (listed.setIfInBounds j true) _ w' (fun k ok hk' hki hunk hno => hfree k ok hk' hki (by
        by_cases hjk : j = k
        · subst hjk; exact hjun
        · rw [getD_set_ne true hjk] at hunk; exact hunk) hno) (ready_mono hr (Ne.symm hji)) (anyC_C hk) (fun W hW => ?_) (by rw [Array.setIfInBounds_comm _ _ hji]; exact hk)
      obtain ⟨v', hy1, hy2⟩ := hy W hW
      refine ⟨v', hy1.of_same ?_ ?_, ?_⟩
      · exact execOp_put oi (fun cs b => hsel i oi cs b hi) ({ a with defers := ds ++ a.defers } : Act) oj.dst u hap3.2.2
      · exact wanted_put oi ({ a with defers := ds ++ a.defers } : Act) oj.dst u hap3.2.2
      · have hb : ∀ x, ({ a with defers := ds ++ a.defers } : Act).put oi.dst x = { a.put oi.dst x with defers := ds ++ a.defers } := fun x => by cases oi.dst <;> rfl
        rw [← Act.put_comm _ v' u hap3.2.1, ← Act.put_comm _ v u hap3.2.1, hb, hb, hy2]
/-- the walk in an order of one's own: 'true': yields the same in the class; 'false': forced -/
def mixC (P : Program) (ops : Array Oper) (C : World → Prop) (Q : Exit → Act → World → Prop) : List (Oper × Bool) → Act → World → Prop
  | [], a, w => C w ∧ Q .normal a w
  | (o, true) :: r, a, w => ∃ A1, (∀ m : Held C, wpStill P ops (HeldW m) (fun a' => a' = A1) [o] a) ∧ C w ∧ mixC P ops C Q r A1 w
  | (o, false) :: r, a, w => C w ∧ wpList P ops (OnlyN fun _ a' w' => mixC P ops C Q r a' w') [o] a w
def permB (md : Region.Mode) (ops : Array Oper) : List (Nat × Bool) → Array Bool → Bool
  | [], listed => (Region.ready md ops listed).isEmpty
  | (i, true) :: r, listed => (Region.ready md ops listed).contains i && Region.free md ops listed i && permB md ops r (listed.setIfInBounds i true)
  | (i, false) :: r, listed => decide (Region.ready md ops listed = [i]) && permB md ops r (listed.setIfInBounds i true)
def pickP (ops : Array Oper) (perm : List (Nat × Bool)) : List (Oper × Bool) := perm.filterMap fun p => (ops[p.1]?).map fun o => (o, p.2)
theorem anyC_of_mix (hs : Region.noSelect ops = true) : ∀ (perm : List (Nat × Bool)) (listed : Array Bool) (a : Act) (w : World), permB md ops perm listed = true → mixC P ops C Q (pickP ops perm) a w → anyC P md ops C Q perm.length listed a w
  | [], listed, a, w, hB, h => ⟨h.1, by simpa [permB] using hB, h.2⟩
  | (i, true) :: r, listed, a, w, hB, h => by
    simp only [permB, Bool.and_eq_true] at hB
    obtain ⟨⟨hr, hf⟩, hB'⟩ := hB
    have hr' : i ∈ Region.ready md ops listed := by simpa using hr
    obtain ⟨_, o, ho, _⟩ := mem_ready.1 hr'
    have e : pickP ops ((i, true) :: r) = (o, true) :: pickP ops r := by unfold pickP; simp [ho]
    rw [e] at h
    obtain ⟨A1, hv, hC, hm⟩ := h
    have hst : ∀ W, C W → ∃ v', YieldsAt P ops W o v' a ∧ a.put o.dst v' = A1 := fun W hW => by
      have h1 : stOp P ops W i (fun a' => a' = A1) a := by unfold stOp; simp only [ho]; exact hv ⟨W, hW⟩
      exact yieldsAt_of_stOp ho h1
    obtain ⟨v, _, rfl⟩ := hst w hC
    exact anyC_first ho (Region.noSelect_spec hs) r.length listed a w (Region.free_spec ho hf) hr' hC hst (anyC_of_mix hs r _ _ w hB' hm)
  | (i, false) :: r, listed, a, w, hB, h => by
    simp only [permB, Bool.and_eq_true, decide_eq_true_eq] at hB
    obtain ⟨hr, hB'⟩ := hB
    have hr' : i ∈ Region.ready md ops listed := by rw [hr]; simp
    obtain ⟨_, o, ho, _⟩ := mem_ready.1 hr'
    have e : pickP ops ((i, false) :: r) = (o, false) :: pickP ops r := by unfold pickP; simp [ho]
    rw [e] at h
    obtain ⟨hC, hw⟩ := h
    refine ⟨hC, by rw [hr]; simp, fun j hj => ?_⟩
    rw [hr] at hj
    obtain rfl : j = i := by simpa using hj
    have hgo : ∀ (a' : Act) (w' : World), mixC P ops C Q (pickP ops r) a' w' → anyC P md ops C Q r.length (listed.setIfInBounds j true) a' w' := fun a' w' hm => anyC_of_mix hs r _ a' w' hB' hm
    unfold wpOp
    simp only [ho]
    simp only [wpList] at hw
    split
    · rename_i hwt
      rw [if_pos hwt] at hw
      rcases hw with hw | hw
      · left
        unfold Oper.wp at *
        generalize (execOp a.eval o).run P w = res at *
        cases res with
        | ok n w' =>
          cases n <;> simp only [Oper.upon] at hw ⊢
          case value u => exact hgo _ _ hw
          case skip => exact hgo _ _ hw
          case defer d => exact hgo _ _ hw
          case enter f args => exact Calls.mono hw (fun e w'' he => by
            cases e
            · exact hgo _ _ he
            · exact he
            · exact absurd he OnlyN.out)
          case row row args => exact Rows.mono hw (fun v w'' he => hgo _ _ he)
        | halt x w' => cases x <;> simp only [Oper.upon] at hw ⊢ <;> exact hw
      · exact absurd hw.2 OnlyN.out
    · rename_i hwt
      rw [if_neg hwt] at hw
      exact hgo _ _ hw
end
theorem wp_region_mix {P : Program} (C : World → Prop) (perm : List (Nat × Bool)) {id : Nat} {Q : Exit → Act → World → Prop} {a : Act} {w : World} {l : List Oper} (hm : P.follows .mixedOrders = true)
    (hB : (Region.noSelect l.toArray && decide (perm.length = l.length) && permB .any l.toArray perm (Array.replicate l.length false)) = true)
    (h : mixC P l.toArray C Q (pickP l.toArray perm) a w.drew) : (Code.region id l.toArray true).wp P Q a w := by
  simp only [Bool.and_eq_true, decide_eq_true_eq] at hB
  obtain ⟨⟨hs, hl⟩, hp⟩ := hB
  refine Code.wp_mono OnlyN.imp (wp_region_any hm (wpAny_of_anyC (C := C) _ _ _ _ ?_))
  have := anyC_of_mix (C := C) (Q := Q) hs perm (Array.replicate l.length false) a w.drew hp h
  rw [hl] at this
  simpa using this
theorem mix_nil {P : Program} {ops : Array Oper} {C : World → Prop} {Q : Exit → Act → World → Prop} {a : Act} {w : World} (hC : C w) (h : Q .normal a w) : mixC P ops C Q [] a w := ⟨hC, h⟩
theorem still_of_quiet {P : Program} {ops : Array Oper} {o : Oper} {a A1 : Act} {W : World} (h : wpQuiet P ops (fun w' => ∃ _ : Unit, w' = W) (fun a' => a' = A1) [o] a) : wpStill P ops W (fun a' => a' = A1) [o] a := by
  simp only [wpQuiet, wpStill] at *
  split
  · rename_i hw
    rw [if_pos hw] at h
    obtain ⟨v, h1, h2⟩ := h
    have h3 := h1 W ⟨(), rfl⟩
    unfold Oper.quietAt at h3
    unfold Oper.still
    generalize (execOp a.eval o).run P W = r at *
    cases r with
    | ok n w' =>
      cases n <;> simp only [Oper.quietUpon] at h3 <;> simp only [Oper.stillUpon]
      case value u => exact ⟨h3.1, by rw [h3.2]; exact h2⟩
      case skip => exact ⟨h3.1, by rw [← h3.2]; exact h2⟩
      case enter f args => exact ⟨h3.1, v, h3.2.mono fun e w'' he => ⟨he.1, by obtain ⟨_, h⟩ := he.2; exact h⟩, h2⟩
    | halt x w' => simp only [Oper.quietUpon] at h3
  · rename_i hw
    rw [if_neg hw] at h
    exact h
theorem mix_first {P : Program} {ops : Array Oper} {C : World → Prop} {Q : Exit → Act → World → Prop} {o : Oper} {r : List (Oper × Bool)} {a : Act} {w : World}
    (h : ∃ A1, (∀ m : Held C, wpQuiet P ops (fun w' => ∃ _ : Unit, w' = HeldW m) (fun a' => a' = A1) [o] a) ∧ C w ∧ mixC P ops C Q r A1 w) : mixC P ops C Q ((o, true) :: r) a w := by
  obtain ⟨A1, h1, h2, h3⟩ := h
  exact ⟨A1, fun m => still_of_quiet (h1 m), h2, h3⟩
theorem mix_forced {P : Program} {ops : Array Oper} {C : World → Prop} {Q : Exit → Act → World → Prop} {o : Oper} {r : List (Oper × Bool)} {a : Act} {w : World} (hC : C w)
    (h : wpList P ops (OnlyN fun _ a' w' => mixC P ops C Q r a' w') [o] a w) : mixC P ops C Q ((o, false) :: r) a w := ⟨hC, h⟩
end Sw
