/- Several texts, joined for the limit of sixty files; each one opens with its own comment. -/
import Derived.Test.YtlfeeiloijmagaaGreatDoorChecked
import Derived.Test.YtlfeeiloijmagaaGreatDoorJoin10
import Derived.Test.YtlfeeiloijmagaaGreatDoorJoin5
import Derived.Test.YtlfeeiloijmagaaGreatDoorJoin28
import Derived.Test.YtlfeeiloijmagaaGreatDoorJoin12
import Derived.RegionTactic
import Derived.BigRegion
import Derived.Deep.RegionLaw
/- slices.Clone of a row of status.Row: the same elements, in memory of the call's own. -/
set_option linter.unusedVariables false
set_option linter.unusedSimpArgs false
namespace Go.Proofs.YtlfeeiloijmagaaGreatDoor
open Go Go.RowKit
open Sw
theorem infoERW : (Tryz.prog.info? 52).map (fun i => (i.zero, i.size, i.bytes)) = some (some (.agg #[.string ⟨#[]⟩, .int .i64 0, .int .i64 0]), 3, 32) := by kernel_rfl
set_option maxRecDepth 100000 in
set_option maxHeartbeats 2000000 in
theorem slCloneRW_any {α : Type} (E : α → List Value) (hE : ∀ x, (E x).length = 3) (hE1 : ∀ x, ∀ u ∈ E x, u.oneCell' = true) (w : World) (v : Value) (l : List α) (h : SlV w 3 E v l) (hl : l.length ≤ 1000000) :
    Calls Tryz.prog 26 #[v] w fun e w' => ∃ v', e = .returned v' ∧ w'.ownsRow w.heap.size 52 3 v' l.length (l.flatMap E) ∧ Below w.heap.size w w' := by
  obtain ⟨A, c, rfl, hc1, hc2, hsl⟩ := h
  cases A with
  | none =>
    have h0 : l = [] := by
      cases l with
      | nil => rfl
      | cons a l => obtain ⟨b, off, h, _⟩ := hsl (by simp); cases h
    subst h0
    have hno := World.ownsRow_nil w w.heap.size 52 3
    have HN := Lib.hid hno; clear hno hsl
    have hnl : ∀ W n c, (binOp .eql 43 (.slice none n c) (.slice none 0 0)).run Tryz.prog W = .ok (.bool true) W := fun W n c => Lib.run_eql_slice_nil W 43 52 none n c 0 0 Tryz.underlying43
    go_enter Tryz.func26, Tryz.ntmps26
    go_wp2_with fail
    go_ret
    exact ⟨_, rfl, HN.out, Below.refl _ _⟩
  | some a =>
    obtain ⟨i0, hi, hz0, hz1, hz2⟩ := info_parts infoERW
    have hlen : (l.flatMap E).length = l.length * 3 := flat_len hE l
    have hone : ∀ u ∈ l.flatMap E, u.oneCell' = true := fun u hu => by
      rw [List.mem_flatMap] at hu
      obtain ⟨x, _, hx⟩ := hu
      exact hE1 x u hx
    have hnews : ∀ j u, (l.flatMap E)[j]? = some u → w.cell? (a.add j) = some u := fun j u hj => by
      have hjl := (List.getElem?_eq_some_iff.1 hj).1
      rw [hlen] at hjl
      obtain ⟨b, off, hA, _, hcs⟩ := hsl (by omega)
      rw [Option.some.inj hA, add_mk]
      have hq : j / 3 < l.length := by omega
      have hr : j % 3 < 3 := Nat.mod_lt _ (by omega)
      have hd : j / 3 * 3 + j % 3 = j := by omega
      have h1 := flat_get hE l (j / 3) hq (j % 3) hr
      rw [hd, hj] at h1
      have h2 := hcs (j / 3) hq (j % 3) hr
      rw [Nat.add_assoc, hd] at h2
      rw [h2, ← h1]
    have hnews1 : ∀ (o : Obj) j u, (l.flatMap E)[j]? = some u → (w.alloc o).cell? (a.add j) = some u := fun o j u hj => by
      have h1 := hnews j u hj
      have hlt := World.block_lt_of_cell? w _ h1
      rw [← h1]
      exact ((Below.refl w.heap.size w).alloc (Nat.le_refl _) o).cell hlt
    have hown := World.ownsRow_made (e := 52) (size := 3) (base := w.heap.size) w #[] 0 (Nat.le_refl _) (by decide) (by simp)
    have hbe : Below w.heap.size w (w.alloc (.cells #[] 52)) := (Below.refl _ _).alloc (Nat.le_refl _) _
    have HH := Lib.hid (And.intro hown hbe); clear hown hbe
    have HL := Lib.hid hlen; clear hlen
    have HO := Lib.hid hone; clear hone
    have HW := Lib.hid hnews1; clear hnews1 hnews
    have HI := Lib.hid (And.intro hi (And.intro hz0 (And.intro hz1 hz2))); clear hi hz0 hz1 hz2
    generalize l.flatMap E = xs at *
    generalize l.length = n at *
    have hnl : ∀ W n c, (binOp .eql 43 (.slice (some a) n c) (.slice none 0 0)).run Tryz.prog W = .ok (.bool false) W := fun W n c => Lib.run_eql_slice_nil W 43 52 (some a) n c 0 0 Tryz.underlying43
    go_enter Tryz.func26, Tryz.ntmps26
    go_wp2_with (at_builtin; refine wpList_append_own _ rfl _ _ 43 rfl w.heap.size 52 i0 (.agg #[.string ⟨#[]⟩, .int .i64 0, .int .i64 0]) 3 32 Tryz.underlying43 HI.out.1 HI.out.2.1 HI.out.2.2.1 HI.out.2.2.2 rfl (by decide) _ _ _ rfl HH.out.1 a n c xs rfl HL.out (HW.out _) HO.out (by unfold maxLen; omega) (by omega) (by simp) ?_; intro v' w1 hown1 hgrow1 hnil1)
    have HP := Lib.hid (And.intro hown1 hgrow1); clear hown1 hgrow1 hnil1
    go_wp2_with fail
    go_ret
    refine ⟨_, rfl, ?_, HH.out.2.grown HP.out.2 (by simp) (fun k hk => ?_)⟩
    · have := HP.out.1
      simpa using this
    · have : w.heap.size = k := Option.some.inj hk
      omega
end Go.Proofs.YtlfeeiloijmagaaGreatDoor
/- Rows of status.Row: their cells. -/
set_option linter.unusedVariables false
set_option linter.unusedSimpArgs false
namespace Go.Proofs.YtlfeeiloijmagaaGreatDoor
open Go Go.RowKit
open Sw
/-- a row's cells -/
def eCRW (e : ByteArray × Int × Int) : List Value := [.string e.1, .int .i64 e.2.1, .int .i64 e.2.2]
theorem eCRW_len (e : ByteArray × Int × Int) : (eCRW e).length = 3 := rfl
theorem eCRW_one (e : ByteArray × Int × Int) : ∀ u ∈ eCRW e, u.oneCell' = true := by
  intro u hu
  simp only [eCRW, List.mem_cons, List.not_mem_nil, or_false] at hu
  rcases hu with rfl | rfl | rfl <;> rfl
end Go.Proofs.YtlfeeiloijmagaaGreatDoor
/- status.Of: what would be done at any path of two sides. -/
set_option linter.unusedVariables false
set_option linter.unusedSimpArgs false
namespace Go.Proofs.YtlfeeiloijmagaaGreatDoor
open Go Go.RowKit Go.Shelf
open Sw
attribute [local go_sem] Oper.semAt_some
/-- the types of what the caller turns -/
def tsS : List TypeId := [70, 52, 43]
theorem keepOkS : KeepOk tsS := by unfold KeepOk tsS; decide
theorem infoRow : (Tryz.prog.info? 52).map (fun i => (i.zero, i.size, i.bytes)) = some (some (.agg #[.string ⟨#[]⟩, .int .i64 0, .int .i64 0]), 3, 32) := by kernel_rfl
/-- a row of rows that the call owns -/
def OwnRow (w : World) (base : Nat) (u : Value) (l : List RowE) : Prop := w.ownsRow base 52 3 u l.length (l.flatMap eCRW)
theorem OwnRow.app {w1 : World} {base g cap n : Nat} {l : List RowE} {x : RowE} (h : w1.ownsRow base 52 3 (.slice (some ⟨g, 0, none⟩) (n + 1) cap) (n + 1) (l.flatMap eCRW ++ eCRW x)) (hn : l.length = n) : OwnRow w1 base (.slice (some ⟨g, 0, none⟩) (n + 1) cap) (l ++ [x]) := by
  unfold OwnRow
  rw [List.length_append, List.length_singleton, hn, List.flatMap_append]
  simpa using h
theorem OwnRow.slv {w : World} {base : Nat} {u : Value} {l : List RowE} (h : OwnRow w base u l) : SlV w 3 eCRW u l := SlV.of_own h eCRW_len (by decide)
/-- behind some steps: the row in the box holds their rows -/
def StI (T : Nat) (pre : List StR) (W : World) : Prop := ∃ o, Blk W T 43 #[o] ∧ OwnRow W T o (rowsR pre)
theorem StI.own (T : Nat) : Own (StI T) := fun _ A B row hs hg hr => by obtain ⟨o, h1, h2⟩ := hs; exact ⟨o, blk_ownF h1 hg hr, own_ownF h2 hg hr⟩
theorem StI.below {T : Nat} {pre : List StR} {A B : World} (hs : StI T pre A) (hb : Below A.heap.size A B) : StI T pre B := by obtain ⟨o, h1, h2⟩ := hs; exact ⟨o, h1.below hb h1.lt, own_kept h2 hb⟩
set_option maxRecDepth 100000 in
set_option maxHeartbeats 8000000 in
theorem statusOf_any (w : World) (u1 u2 : Value) (l1 l2 : List MkE) (bt bm bt2 bm2 : Nat) (xs ys : List NE) (h1 : SlV w 6 eCM u1 l1) (h2 : SlV w 6 eCM u2 l2) (hl1 : l1.length ≤ 1000) (hl2 : l2.length ≤ 1000) (hp1 : ∀ m ∈ l1, m.1.size ≤ 90000) (hp2 : ∀ m ∈ l2, m.1.size ≤ 90000)
    (hT : TreeAt w bt bm xs) (hT2 : TreeAt w bt2 bm2 ys) (hxl : xs.length ≤ 1000) (hyl : ys.length ≤ 1000) (hxd : ∀ e ∈ xs, e.2.data.size ≤ maxLen) (hyd : ∀ e ∈ ys, e.2.data.size ≤ maxLen) :
    Calls Tryz.prog 8 #[.agg #[u1, u2], .pointer (some ⟨bt, 0, none⟩), .pointer (some ⟨bt2, 0, none⟩)] w fun e w' => ∃ u, e = .returned u ∧ OwnRow w' w.heap.size u (rowsR (allR (l1 ++ l2) xs ys)) ∧ Below w.heap.size w w' := by
  obtain ⟨W, hW⟩ : ∃ W, (w.alloc (.cells #[u1, u2] 24)).alloc (.cells #[.slice none 0 0] 43) = W := ⟨_, rfl⟩
  have hb0 : Below w.heap.size w W := by rw [← hW]; exact ((Below.refl _ w).alloc (Nat.le_refl _) _).alloc (by simp) _
  have hB : Blk W w.heap.size 24 #[u1, u2] := by rw [← hW]; exact blk_fst _ _ _ _
  have hO : Blk W (w.heap.size + 1) 43 #[.slice none 0 0] := by rw [← hW]; exact blk_snd _ _ _ _
  have hlen : (allR (l1 ++ l2) xs ys).length ≤ 6000 := by
    unfold allR
    rw [List.length_map]
    exact Nat.le_trans (pathsS_len _) (by simp only [List.length_append, List.length_map]; omega)
  have HTE := Lib.hid (fun W' (hb : Below w.heap.size w W') gB gl gr (hE : EachAt W' gB gl gr bt bm bt2 bm2 u1 u2 xs ys) => each_tells 8 (by omega) tsS keepOkS w.heap.size W' hb.size gB gl gr bt bm bt2 bm2 u1 u2 l1 l2 xs ys hE (fun V hV => h1.below (hb.trans hV) (Nat.le_refl _)) (fun V hV => h2.below (hb.trans hV) (Nat.le_refl _)) hl1 hl2 hp1 hp2 hxl hyl hxd hyd)
  have H0 := Lib.hid (And.intro hb0 (And.intro hB (And.intro hO (And.intro (hT.below hb0) (hT2.below hb0)))))
  obtain ⟨A1, c1, rfl, _, _, _⟩ := h1
  obtain ⟨A2, c2, rfl, _, _, _⟩ := h2
  have HE := Lib.hid (reconEach_any W (.slice A1 l1.length c1) (.slice A2 l2.length c2) bt bt2 A1 A2 _ _ _ _ rfl rfl)
  have q0 := hB.cell 0
  have q1 := hB.cell 1
  simp only [List.getElem?_toArray, List.getElem?_cons_succ, List.getElem?_cons_zero] at q0 q1
  have HW := Lib.hid hW
  generalize allR (l1 ++ l2) xs ys = ans at *
  obtain ⟨m1, hm1⟩ : ∃ n, l1.length = n := ⟨_, rfl⟩
  obtain ⟨m2, hm2⟩ : ∃ n, l2.length = n := ⟨_, rfl⟩
  simp only [hm1, hm2] at HW HE H0 HTE q0 q1 ⊢
  clear hb0 hB hO hT hT2 hp1 hp2 hxd hyd hW hm1 hm2
  refine callsIn_wide.1 (?_ : CallsIn Fence.wide 9 _ _ _ _ _)
  refine callsIn_of_wp_marks Tryz.func8 rfl trivial ?_ rfl
  simp only [Tryz.ntmps8, List.size_toArray, List.length_cons, List.length_nil, Nat.reduceAdd, Nat.reduceSub, Array.replicate_succ, Array.replicate_zero, List.push_toArray, List.append_toArray, List.nil_append, List.cons_append]
  refine wpIn_wide.2 ?_
  go_upto_region 1 with fail
  rw [HW.out]
  go_wp2_with fail
  refine HE.out.mono ?_
  rintro e w1 ⟨rfl, hw1⟩
  have hb1 : Below W.heap.size W w1 := by rw [hw1]; exact (((Below.refl _ W).alloc (Nat.le_refl _) _).alloc (by simp) _).alloc (by simp; omega) _
  have hE1 : EachAt w1 W.heap.size (W.heap.size + 1) (W.heap.size + 1 + 1) bt bm bt2 bm2 (.slice A1 m1 c1) (.slice A2 m2 c2) xs ys := by
    refine ⟨?_, ?_, ?_, H0.out.2.2.2.1.below hb1, H0.out.2.2.2.2.below hb1⟩
    · rw [hw1]; exact (blk_fst _ _ _ _).alloc _
    · rw [hw1]; exact (blk_snd _ _ _ _).alloc _
    · rw [hw1]; exact blk_trd _ _ _ _ _
  have hbw := H0.out.1.trans (hb1.mono H0.out.1.size)
  have HTE1 := Lib.hid (HTE.out w1 hbw _ _ _ hE1)
  obtain ⟨T, hTe⟩ : ∃ T, w.heap.size + 1 = T := ⟨_, rfl⟩
  have hO1 := H0.out.2.2.1.below hb1 H0.out.2.2.1.lt
  rw [hTe] at hO1
  have H1 := Lib.hid (And.intro hO1 hbw)
  have hTw : T ≤ w1.heap.size := Nat.le_of_lt hO1.lt
  have hwT : w.heap.size ≤ T := by omega
  clear hw1 hb1 hE1 hbw HTE HE H0 q0 q1 hO1
  go_wp2_with fail
  clear hTe
  refine (wpIn_wide (n := 9)).1 ?_
  refine wpIn_rangeFunc_tellW (Mine := fun _ => False) (fun _ h => h.elim) rfl (by omega) (gf := 43) (lb := #[.pointer (some ⟨W.heap.size, 0, none⟩), .pointer (some ⟨W.heap.size + 1, 0, none⟩), .pointer (some ⟨W.heap.size + 1 + 1, 0, none⟩)]) rfl trivial (enters_of Tryz.func43 (by kernel_rfl) rfl)
    HTE1.out KeepR.trans (fun W l o o' hl h1 h2 _ => keepR_b o' (by have := H1.out.2.size; omega) h1 h2) (Below.refl _ _) (fun _ => rfl)
    (fun pre W => StI T pre W ∧ Below w.heap.size w W)
    (fun c pre W => False)
    (OwnM.of_none (OwnFrom.and (Own.from (StI.own T) _) (ownFrom_below (Nat.le_refl _) (by omega))))
    (fun c => OwnM.of_none (fun _ _ _ _ hs _ _ => hs.elim))
    ⟨⟨_, H1.out.1, World.ownsRow_nil _ _ _ _⟩, H1.out.2⟩
    ?a1 (fun x W => W.alloc (.cells (eCR x).toArray 70))
    (fun x n₀ pre W => (StI T pre W ∧ Below w.heap.size w W) ∧ Blk W n₀ 70 (eCR x).toArray) (fun x n₀ => OwnM.of_none (OwnFrom.and (OwnFrom.and (Own.from (StI.own T) _) (ownFrom_below (Nat.le_refl _) (by omega))) (Own.from (fun _ A B row hs hg hr => blk_ownF hs hg hr) _))) ?made ?assign ?body ?done ?stop
  case assign =>
    intro l x n0 W hn K hK
    simp only [eCR]
    gi_wp2
    exact hK
  case made =>
    rintro pre x W ⟨hI, hB⟩ hT
    have hba := (Below.refl W.heap.size W).alloc (Nat.le_refl _) (.cells (eCR x).toArray 70)
    exact ⟨⟨⟨hI.below hba, hB.trans (hba.mono hB.size)⟩, Blk.new _ _ _⟩, keeps_belowF hba, .below hba hB.size⟩
  case body =>
    rintro l pre ⟨q, vd, cl, ⟨ak, am, at', ad⟩, ⟨ck, cm, ct, cd⟩⟩ n₀ W ⟨⟨⟨o, b1, ho⟩, hB⟩, hX⟩ hT
    have hpl : pre.length + 1 ≤ 6000 := by obtain ⟨r, hr⟩ := hT; have := congrArg List.length hr; simp at this; omega
    simp only [eCR] at hX
    have x0 := hX.cell 0
    have x1 := hX.cell 1
    have x2 := hX.cell 2
    simp only [List.getElem?_toArray, List.getElem?_cons_succ, List.getElem?_cons_zero] at x0 x1 x2
    have m1 := b1.cell 0
    have f1 := b1.frozen 0
    simp at m1
    unfold OwnRow at ho
    rw [rowsR_len] at ho
    obtain ⟨A3, c3, rfl, _, _, _⟩ := SlV_of_any ho
    have hTW := Nat.le_of_lt b1.lt
    have HH := Lib.hid (And.intro b1 (And.intro ho hB)); clear b1 ho hB hX hT
    gi_wp2_with (gi_at_builtin; refine wpListIn_app rfl _ _ 43 rfl T 52 (.agg #[.string ⟨#[]⟩, .int .i64 0, .int .i64 0]) 3 32 Tryz.underlying43 infoRow rfl (by decide) _ pre.length _ rfl (HH.out.2.1.alloc _) W.heap.size 1 #[.string q, .int .i64 vd, .int .i64 cl] 52 rfl (Blk.new _ _ _) rfl (by simp [Value.oneCell']) (by omega) (by decide) (by simp; omega) _ rfl ?_; intro g cap w5 hown1 hgrow1 hat hlt1; have hb5 := app_pre HH.out.1 HH.out.2.1 ((Below.refl _ _).alloc (Nat.le_refl _) _) hgrow1 (by decide); have c5 := hb5.cell 0; have f5 := hb5.frozen 0; simp at c5)
    have hA := app_body HH.out.1 HH.out.2.1 ((Below.refl _ _).alloc (Nat.le_refl _) _) hgrow1 hown1 (by omega) (Nat.le_refl _) (by decide)
    have hK : KeepR w.heap.size tsS W _ := ⟨hA.below.mono hwT, fun g' t cs hg' ht => hA.far g' t cs hg' (fun e' => ht (by rw [e']; decide)) (fun e' => ht (by subst e'; rw [hA.typ t cs hg']; decide))⟩
    refine ⟨hA.keeps, hK, ⟨_, hA.box, ?_⟩, HH.out.2.2.trans (hA.below.mono hwT)⟩
    have e1 : rowsR (pre ++ [(⟨q, vd, cl, ⟨ak, am, at', ad⟩, ⟨ck, cm, ct, cd⟩⟩ : StR)]) = rowsR pre ++ [(q, vd, cl)] := by unfold rowsR; rw [List.map_append]; rfl
    rw [e1]
    exact OwnRow.app (x := (q, vd, cl)) hA.own (rowsR_len pre)
  case done =>
    rintro D zs W hD hzs ⟨⟨o, b1, ho⟩, hB⟩ hK
    have hz : zs = ans := hzs
    subst hz
    have m1 := b1.cell 0
    have f1 := b1.frozen 0
    simp at m1
    obtain ⟨A3, c3, rfl, _, _, _⟩ := SlV_of_any ho
    have hD' : w.heap.size ≤ D := by have := H1.out.2.size; omega
    have HC := Lib.hid (And.intro b1 (And.intro ho (And.intro hB hK))); clear b1 ho hB hK hzs
    generalize (rowsR zs).length = z at *
    go_wp2_with fail
    have hK2 : (W.setCell ⟨T, 0, none⟩ (.slice A3 z c3)).heap[D]? = some (Obj.deferred (some [])) := (KeepsOthers.setCell W ⟨T, 0, none⟩ (.slice A3 z c3)).same D _ HC.out.2.2.2 rfl
    have hR2 : Blk (W.setCell ⟨T, 0, none⟩ (.slice A3 z c3)) T 43 #[.slice A3 z c3] := HC.out.1.put 0 (.slice A3 z c3)
    have hO2 : OwnRow (W.setCell ⟨T, 0, none⟩ (.slice A3 z c3)) T (.slice A3 z c3) (rowsR zs) := HC.out.2.1.kept (grown_put (grown_refl W (some T)) 0 _) (.inr (own_ne_blk HC.out.2.1 HC.out.1 (by decide)))
    have hB2 := HC.out.2.2.1.setCell (p := ⟨T, 0, none⟩) hwT (.slice A3 z c3)
    have hw := fun r (e : some D = some r) => show ∃ o : Obj, (W.setCell ⟨T, 0, none⟩ (.slice A3 z c3)).heap[r]? = some o ∧ o.isCells = false from (by cases e; exact ⟨_, hK2, rfl⟩)
    refine ⟨by simp, .inl ⟨_, _, rfl, run_takeDeferred hK2, ?_⟩⟩
    refine ⟨_, res_cell_sl rfl _ _ T 43 (.slice A3 z c3) rfl (blk_ownF hR2 (grownBy_putObj' _ D (.deferred none)) hw) Tryz.underlying43, ⟨_, rfl, ?_, ?_⟩⟩
    · exact own_wide (own_ownF hO2 (grownBy_putObj' _ D (.deferred none)) hw) hwT
    · exact hB2.trans (belowK_b (w := w) (Nat.le_refl _) _ D _ _ hD' hK2 rfl rfl)
  case stop =>
    rintro D c pre W hD _ hF
    exact hF.elim
end Go.Proofs.YtlfeeiloijmagaaGreatDoor
/- slices.Reverse of a row of status.Row that the call owns. -/
set_option linter.unusedVariables false
set_option linter.unusedSimpArgs false
namespace Go.Proofs.YtlfeeiloijmagaaGreatDoor
open Go Go.RowKit
open Sw
end Go.Proofs.YtlfeeiloijmagaaGreatDoor
/- slices.Insert of one element into a row of status.Row that the call owns. -/
set_option linter.unusedVariables false
set_option linter.unusedSimpArgs false
namespace Go.Proofs.YtlfeeiloijmagaaGreatDoor
open Go Go.RowKit
open Sw
/-- behind the call: a row with one more element -/
def InsPostRW (base n : Nat) (xs : List Value) (row : Option Nat) (w : World) (e : Ending) (w' : World) : Prop :=
  ∃ g cap, e = .returned (.slice (some ⟨g, 0, none⟩) (n + 1) cap) ∧ w'.ownsRow base 52 3 (.slice (some ⟨g, 0, none⟩) (n + 1) cap) (n + 1) xs ∧ w.grownBy w' row ∧ (row = some g ∨ w.heap.size ≤ g)
end Go.Proofs.YtlfeeiloijmagaaGreatDoor
/- slices.Delete of one element out of a row of status.Row that the call owns. -/
set_option linter.unusedVariables false
set_option linter.unusedSimpArgs false
namespace Go.Proofs.YtlfeeiloijmagaaGreatDoor
open Go Go.RowKit
open Sw
/-- behind the call: a row with one element less -/
def DelPostRW (base n : Nat) (xs : List Value) (row : Option Nat) (w : World) (e : Ending) (w' : World) : Prop :=
  ∃ v, e = .returned v ∧ w'.ownsRow base 52 3 v n xs ∧ w.grownBy w' row ∧ v.ownBlock = row
end Go.Proofs.YtlfeeiloijmagaaGreatDoor
/- slices.IndexFunc and slices.DeleteFunc of a row of status.Row that the call owns; the predicate is swingle/status.Busy$1. -/
set_option linter.unusedVariables false
set_option linter.unusedSimpArgs false
namespace Go.Proofs.YtlfeeiloijmagaaGreatDoor
open Go Go.RowKit
open Sw
def IdxPostRW {α : Type} (p : α → Bool) (l : List α) (w : World) (e : Ending) (w' : World) : Prop :=
  ((∃ i : Nat, ∃ h : i < l.length, (∀ m (h : m < l.length), m < i → p l[m] = false) ∧ p l[i] = true ∧ e = .returned (.int .i64 i)) ∨ ((∀ x ∈ l, p x = false) ∧ e = .returned (.int .i64 (-1)))) ∧ Below w.heap.size w w'
set_option maxRecDepth 100000 in
set_option maxHeartbeats 4000000 in
theorem slIndexFuncRW_any (p : ByteArray × Int × Int → Bool) (r0 : Option Nat) (C : World → Prop) (hC : ∀ W W', C W → W.grownBy W' r0 → C W') (w : World) (A : Option Addr) (n c g : Nat) (l : List (ByteArray × Int × Int)) (hl : l.length = n) (hn : n ≤ 1000000) (hsl : SlOf w 3 eCRW A l) (h0 : C w)
    (hcall : ∀ W x, x ∈ l → C W → Calls Tryz.prog 27 #[.agg (eCRW x).toArray] W fun e w' => e = .returned (.bool (p x)) ∧ Below W.heap.size W w') :
    Calls Tryz.prog 48 #[.slice A n c, .func (.func 27) #[] #[]] w (IdxPostRW p l w) := by
  have HS := Lib.hid hsl; clear hsl
  have HL := Lib.hid hl; clear hl
  have HC := Lib.hid hC; clear hC
  have HCL := Lib.hid hcall; clear hcall
  have H0 := Lib.hid h0; clear h0
  go_enter Tryz.func48, Tryz.ntmps48
  go_wp2_with fail
  go_loopw [8] (fun iv wr => ∃ i : Nat, i ≤ n ∧ iv = .int .i64 i ∧ (∀ m (h : m < l.length), m < i → p l[m] = false) ∧ Below w.heap.size w wr) (fun iv _ => n - (intOf iv).toNat)
  case atStart => exact ⟨0, Nat.zero_le _, rfl, fun m h h' => absurd h' (Nat.not_lt_zero _), Below.refl _ _⟩
  case round =>
    obtain ⟨i, hin, rfl, hno, hbr⟩ := hrel
    have HNO := Lib.hid hno; clear hno
    by_cases hlt : i < n
    · have hiL : i < l.length := by have := HL.out; omega
      obtain ⟨b, off, rfl, hbb, _⟩ := (HS.out.below hbr (Nat.le_refl _)) (by omega)
      have HR := Lib.hid ((HS.out.below hbr (Nat.le_refl _)).range eCRW_len i hiL)
      have HF := Lib.hid (HCL.out wr l[i] (List.getElem_mem hiL) (HC.out w wr H0.out (grown_below hbr)))
      have HYES := Lib.hid (fun (hp : p l[i] = true) w' (hb : Below w.heap.size w w') => (⟨.inl ⟨i, hiL, HNO.out, hp, rfl⟩, hb⟩ : IdxPostRW p l w (.returned (.int .i64 i)) w'))
      have HNO2 := Lib.hid (fun (hp : p l[i] = false) m (hm : m < l.length) (hmi : m < i + 1) => (by
        by_cases e : m = i
        · subst e; exact hp
        · exact HNO.out m hm (by omega) : p l[m] = false))
      have HX := Lib.hid (eCRW_len l[i])
      generalize p l[i] = pv at *
      generalize eCRW l[i] = ev at *
      have q2 : (i : Int) < n := by omega
      cases pv with
      | true =>
        have hyes := HYES.out rfl
        have HYES2 := Lib.hid hyes; clear hyes HYES HNO2
        go_wp2_with (refine wpList_load_mid rfl 52 (.tmp 14) rfl b (off + i * 3) rfl ev _ HR.out Tryz.underlying52 rfl (by rw [HX.out]; kernel_rfl) ?_)
        refine HF.out.mono ?_
        rintro e w2 ⟨rfl, hb2⟩
        have HP := Lib.hid (HYES2.out w2 (hbr.trans (hb2.mono hbr.size)))
        clear HR HF HNO
        go_wp2_with fail
        go_ret
        exact HP.out
      | false =>
        have hno2 := HNO2.out rfl
        have HNO3 := Lib.hid hno2; clear hno2 HYES HNO2
        go_wp2_with (refine wpList_load_mid rfl 52 (.tmp 14) rfl b (off + i * 3) rfl ev _ HR.out Tryz.underlying52 rfl (by rw [HX.out]; kernel_rfl) ?_)
        refine HF.out.mono ?_
        rintro e w2 ⟨rfl, hb2⟩
        have HP := Lib.hid (And.intro HNO3.out (hbr.trans (hb2.mono hbr.size)))
        clear HR HF HNO
        go_wp2_with fail
        go_roundw
        case rel => exact ⟨i + 1, by omega, by go_num, HP.out.1, HP.out.2⟩
        case measure => simp [intOf]; omega
    · obtain rfl : i = n := by omega
      have hpst : IdxPostRW p l w (.returned (.int .i64 (-1))) wr := ⟨.inr ⟨fun x hx => by
        obtain ⟨m, hm, rfl⟩ := List.mem_iff_getElem.1 hx
        exact HNO.out m hm (by have := HL.out; omega), rfl⟩, hbr⟩
      have HP := Lib.hid hpst; clear hpst
      go_wp2_with fail
      go_ret
      exact HP.out
/-- behind the call: the row of those that stay -/
def DelFPostRW (base : Nat) (l : List (ByteArray × Int × Int)) (row : Option Nat) (w : World) (e : Ending) (w' : World) : Prop :=
  ∃ v, e = .returned v ∧ w'.ownsRow base 52 3 v l.length (l.flatMap eCRW) ∧ w.grownBy w' row ∧ v.ownBlock = row
set_option maxRecDepth 100000 in
set_option maxHeartbeats 8000000 in
theorem slDelFuncRW_any (p : ByteArray × Int × Int → Bool) (C : World → Prop) (w : World) (base : Nat) (v : Value) (l : List (ByteArray × Int × Int)) (hown : w.ownsRow base 52 3 v l.length (l.flatMap eCRW)) (hC : ∀ W W', C W → W.grownBy W' v.ownBlock → C W') (gp : Nat) (hn : l.length ≤ 1000000) (h0 : C w)
    (hcall : ∀ W x, x ∈ l → C W → Calls Tryz.prog 27 #[.agg (eCRW x).toArray] W fun e w' => e = .returned (.bool (p x)) ∧ Below W.heap.size W w') :
    Calls Tryz.prog 25 #[v, .func (.func 27) #[] #[]] w (DelFPostRW base (l.filter fun x => !p x) v.ownBlock w) := by
  have hslv : SlV w 3 eCRW v l := SlV.of_own hown eCRW_len (by decide)
  obtain ⟨A, c, rfl, hc1, hc2, hsl⟩ := hslv
  have HIX := Lib.hid (slIndexFuncRW_any p _ C hC w A l.length c gp l rfl hn hsl h0 hcall)
  have HO := Lib.hid hown; clear hown
  have HC := Lib.hid hC; clear hC
  have HCL := Lib.hid hcall; clear hcall
  have H0 := Lib.hid h0; clear h0
  clear hsl
  go_enter Tryz.func25, Tryz.ntmps25
  go_wp2_with fail
  refine HIX.out.mono ?_
  rintro e w1 ⟨⟨i0, hi0, hno, hyes, rfl⟩ | ⟨hnone, rfl⟩, hb1⟩
  · have hne : ((i0 : Int) == -1) = false := by rw [beq_eq_false_iff_ne]; omega
    obtain ⟨g, cap0, cur0, hA, hbg0, hB0, hnc0, hcm0, hcs0, htk0⟩ := own_form HO.out (by omega)
    obtain ⟨rfl, rfl⟩ : A = some ⟨g, 0, none⟩ ∧ c = cap0 := by injection hA with e1 e2 e3; exact ⟨e1, e3⟩
    have HFI := Lib.hid (show (l.take i0).filter (fun x => !p x) = l.take i0 ∧ (l.take (i0 + 1)).filter (fun x => !p x) = l.take i0 from by
      have h1 : (l.take i0).filter (fun x => !p x) = l.take i0 := by
        rw [List.filter_eq_self]
        intro x hx
        obtain ⟨m, hm, rfl⟩ := List.mem_iff_getElem.1 hx
        rw [List.length_take] at hm
        rw [List.getElem_take, hno m (by omega) (by omega)]; rfl
      refine ⟨h1, ?_⟩
      rw [List.take_succ_eq_append_getElem hi0, List.filter_append, h1]
      simp [hyes])
    have HB1 := Lib.hid (And.intro hb1 (own_kept HO.out hb1)); clear hb1 hno hyes hB0 htk0 hcs0
    have hi30 : (i0 : Int) + 1 ≤ 1000001 := by omega
    obtain ⟨n, hnl⟩ : ∃ n, l.length = n := ⟨_, rfl⟩
    rw [hnl] at HO HB1 hi0 hn hc1 hnc0
    unfold maxLen at hc2 hcm0
    rw [hnl]
    have HNL := Lib.hid hnl; clear hnl hA hcm0
    go_wp2_with fail
    go_loopw [5, 6] (fun iv jv wr => ∃ i j : Nat, i < j ∧ j ≤ n ∧ iv = .int .i64 i ∧ jv = .int .i64 j ∧ ∃ cs : List (ByteArray × Int × Int), cs.length = n ∧ wr.ownsRow base 52 3 (.slice (some ⟨g, 0, none⟩) n c) n (cs.flatMap eCRW) ∧ cs.take i = (l.take j).filter (fun x => !p x) ∧ cs.drop j = l.drop j ∧ w.grownBy wr (some g)) (fun _ jv _ => n - (intOf jv).toNat)
    case atStart => exact ⟨i0, i0 + 1, by omega, by omega, rfl, by go_num, l, HNL.out, HB1.out.2, HFI.out.2.symm, rfl, grown_below HB1.out.1⟩
    case round =>
      obtain ⟨i, j, hij, hjn, rfl, rfl, cs, hcl, ho, htk, hdr, hg⟩ := hrel
      have HR := Lib.hid (And.intro ho (And.intro htk (And.intro hdr (And.intro hg hcl)))); clear ho htk hdr hg hcl
      by_cases hlt : j < n
      · obtain ⟨gp', cap, cur, hA, hbg, hB, hnc, hcm, hcs, htk⟩ := own_form HR.out.1 (by omega)
        obtain ⟨rfl, rfl⟩ : g = gp' ∧ c = cap := by injection hA with e1 e2 e3; exact ⟨congrArg Addr.block (Option.some.inj e1), e3⟩
        have hjl : j < cs.length := by rw [HR.out.2.2.2.2]; exact hlt
        have hjL : j < l.length := by rw [HNL.out]; exact hlt
        have hxe : cs[j] = l[j] := by
          have h1 : (cs.drop j)[0]? = (l.drop j)[0]? := by rw [HR.out.2.2.1]
          rw [List.getElem?_drop, List.getElem?_drop, Nat.add_zero, List.getElem?_eq_getElem hjl, List.getElem?_eq_getElem hjL] at h1
          exact Option.some.inj h1
        have hcj := fun (q : Nat) (hq : q < 3) => (by
          have h1 := flat_get eCRW_len cs j hjl q hq
          have h2 : j * 3 + q < n * 3 := by have : (j + 1) * 3 ≤ n * 3 := Nat.mul_le_mul_right _ hlt; omega
          rw [hB.cell, ← Array.getElem?_toList, ← h1, ← htk, List.getElem?_take, if_pos h2] : wr.cell? ⟨g, j * 3 + q, none⟩ = (eCRW cs[j])[q]?)
        simp only [hxe] at hcj
        have hmem : l[j] ∈ l := List.getElem_mem hjL
        obtain ⟨x, hx⟩ : ∃ x, l[j] = x := ⟨_, rfl⟩
        rw [hx] at hmem
        simp only [hx] at hcj
        have HX := Lib.hid hx; clear hx hxe
        have hcw : C wr := HC.out w wr H0.out HR.out.2.2.2.1
        have hcw1 : C (wr.alloc (.cells (eCRW x).toArray 52)) := HC.out _ _ hcw (grown_alloc (grown_refl wr _) _)
        have HF := Lib.hid (HCL.out _ x hmem hcw1)
        have hbx := Blk.new wr 52 (eCRW x).toArray
        have hba := (Below.refl wr.heap.size wr).alloc (Nat.le_refl _) (.cells (eCRW x).toArray 52)
        have HBX := Lib.hid (And.intro hbx hba); clear hbx hba hcw hcw1 hmem
        have b0 : wr.cell? ⟨g, j * 3, none⟩ = _ := hcj 0 (by omega)
        have b1 : wr.cell? ⟨g, j * 3 + 1, none⟩ = _ := hcj 1 (by omega)
        have b2 : wr.cell? ⟨g, j * 3 + 2, none⟩ = _ := hcj 2 (by omega)
        simp only [eCRW, List.getElem?_cons_succ, List.getElem?_cons_zero] at b0 b1 b2
        have hq3 : (j : Int) < n := by omega
        have HB := Lib.hid hB
        have HTK := Lib.hid htk; clear hB htk hcs hcj hA hcm
        have HPX := Lib.hid (fun (hp : p x = true) => (by rw [List.take_succ_eq_append_getElem hjL, HX.out, List.filter_append, HR.out.2.1]; simp [hp] : cs.take i = (l.take (j + 1)).filter (fun x => !p x)))
        have HPY := Lib.hid (fun (hp : p x = false) => (by rw [List.take_succ_eq_append_getElem hjL, HX.out, List.filter_append, ← HR.out.2.1]; simp [hp] : (l.take (j + 1)).filter (fun x => !p x) = cs.take i ++ [x]))
        obtain ⟨pv, hpv⟩ : ∃ pv, p x = pv := ⟨_, rfl⟩
        rw [hpv] at HPX HPY HF
        simp only [eCRW] at HF
        cases pv with
        | true =>
          clear hpv
          go_wp2_with fail
          refine HF.out.mono ?_
          rintro e w2 ⟨rfl, hb2⟩
          have hg2 : w.grownBy w2 (some g) := grown_sub (grown_alloc HR.out.2.2.2.1 _) (grown_below (row := none) hb2) (fun k hk => by cases hk)
          have HZ := Lib.hid (And.intro hg2 (own_kept (own_kept HR.out.1 HBX.out.2) hb2)); clear hg2 hb2
          go_wp2_with fail
          go_roundw
          case rel => exact ⟨i, j + 1, by omega, by omega, rfl, by go_num, cs, HR.out.2.2.2.2, HZ.out.2, HPX.out (by trivial), by rw [← List.drop_drop, ← List.drop_drop, HR.out.2.2.1], HZ.out.1⟩
          case measure => simp [intOf]; omega
        | false =>
          clear hpv
          go_wp2_with fail
          refine HF.out.mono ?_
          rintro e w2 ⟨rfl, hb2⟩
          have hbx2 := (HBX.out.1).below hb2 HBX.out.1.lt
          have hg2 : w.grownBy w2 (some g) := grown_sub (grown_alloc HR.out.2.2.2.1 _) (grown_below (row := none) hb2) (fun k hk => by cases hk)
          have ho2 := own_kept (own_kept HR.out.1 HBX.out.2) hb2
          have hB := (HB.out.below HBX.out.2 HB.out.lt).below hb2 (Nat.lt_of_lt_of_le HB.out.lt HBX.out.2.size)
          have x0 : w2.cell? ⟨wr.heap.size, 0, none⟩ = _ := hbx2.cell 0
          have x1 : w2.cell? ⟨wr.heap.size, 1, none⟩ = _ := hbx2.cell 1
          have x2 : w2.cell? ⟨wr.heap.size, 2, none⟩ = _ := hbx2.cell 2
          simp [eCRW] at x0 x1 x2
          have fa0 := hB.frozen (i * 3)
          have fa1 := hB.frozen (i * 3 + 1)
          have fa2 := hB.frozen (i * 3 + 2)
          have hil : i < cs.length := by rw [HR.out.2.2.2.2]; omega
          have hci := fun (q : Nat) (hq : q < 3) => (by
            have h1 := flat_get eCRW_len cs i hil q hq
            have h2 : i * 3 + q < n * 3 := by have : (i + 1) * 3 ≤ n * 3 := Nat.mul_le_mul_right _ (by omega); omega
            rw [hB.cell, ← Array.getElem?_toList, ← h1, ← HTK.out, List.getElem?_take, if_pos h2] : w2.cell? ⟨g, i * 3 + q, none⟩ = (eCRW cs[i])[q]?)
          obtain ⟨y, hy⟩ : ∃ y, cs[i] = y := ⟨_, rfl⟩
          simp only [hy] at hci
          have a0 : w2.cell? ⟨g, i * 3, none⟩ = _ := hci 0 (by omega)
          have a1 : w2.cell? ⟨g, i * 3 + 1, none⟩ = _ := hci 1 (by omega)
          have a2 : w2.cell? ⟨g, i * 3 + 2, none⟩ = _ := hci 2 (by omega)
          simp only [eCRW, List.getElem?_cons_succ, List.getElem?_cons_zero] at a0 a1 a2
          clear hci hy
          have HST := Lib.hid (by
            have h1 := own_setCells (eCRW x) (i * 3) w2 _ ho2 (by rw [eCRW_len]; omega)
            have f1 := flat_put eCRW_len cs i hil x 0 (eCRW x) (by rw [eCRW_len]; omega) (by simp [eCRW_len])
            simp only [Nat.add_zero] at f1
            rw [f1] at h1
            exact And.intro h1 (grown_setCells (eCRW x) (i * 3) w2 hg2))
          have hq4 : (i : Int) < n := by omega
          have hq5 : i < n := by omega
          clear hB hg2 ho2 hb2 hbx2
          go_wp2_with fail
          go_roundw
          case rel => exact ⟨i + 1, j + 1, by omega, by omega, by go_num, by go_num, cs.set i x, by rw [List.length_set]; exact HR.out.2.2.2.2, HST.out.1, by rw [HPY.out (by trivial), List.take_succ_eq_append_getElem (by rw [List.length_set]; exact hil), List.getElem_set_self, List.take_set_of_le (Nat.le_refl _)], by rw [List.drop_set_of_lt (by omega), ← List.drop_drop, ← List.drop_drop, HR.out.2.2.1], HST.out.2⟩
          case measure => simp [intOf]; omega
      · obtain rfl : j = n := by omega
        obtain ⟨gp', cap, cur, hA, hbg, hB, hnc, hcm, hcs, htk⟩ := own_form HR.out.1 (by omega)
        obtain ⟨rfl, rfl⟩ : g = gp' ∧ c = cap := by injection hA with e1 e2 e3; exact ⟨congrArg Addr.block (Option.some.inj e1), e3⟩
        obtain ⟨r2, hcl, hr2s, hr2t⟩ := run_clear_rows (P := Tryz.prog) wr 43 52 (.agg #[.string ⟨#[]⟩, .int .i64 0, .int .i64 0]) 3 Tryz.underlying43 Tryz.zeroValue52 rfl (by decide) g (i * 3) (j - i) (c - i) (by omega) cur 52 hB (by rw [hcs, Nat.sub_mul]; have : i * 3 ≤ j * 3 := Nat.mul_le_mul_right _ (by omega); have : j * 3 ≤ c * 3 := Nat.mul_le_mul_right _ (by omega); omega)
        have hfl : l.filter (fun x => !p x) = cs.take i := by rw [HR.out.2.1, List.take_of_length_le (by rw [HNL.out]; omega)]
        have hil : i ≤ cs.length := by rw [HR.out.2.2.2.2]; omega
        have hx2 : r2.toList.take (i * 3) = (l.filter fun x => !p x).flatMap eCRW := by
          rw [hr2t, hfl, flat_take eCRW_len, ← htk, List.take_take, Nat.min_eq_left (Nat.mul_le_mul_right _ (by omega))]
        have hli : (l.filter fun x => !p x).length = i := by rw [hfl, List.length_take]; omega
        have hfin : DelFPostRW base (l.filter fun x => !p x) (some g) w (.returned (.slice (some ⟨g, 0, none⟩) i c)) (wr.setRow g r2) :=
          ⟨_, rfl, by rw [hli]; exact own_mk hbg (hB.setRow _) (by omega) hc2 (by rw [hr2s, hcs]) hx2, grown_trans HR.out.2.2.2.1 (grown_setRow _ _ _), rfl⟩
        have HF := Lib.hid hfin; clear hfin hx2 hli hfl htk hcs hB hA hr2t hr2s hil hcm
        have h1 : (i : Int) ≤ j := by omega
        have h2 : i ≤ j := by omega
        have h3 : ¬ c = i := by omega
        have h4 : (i : Int) ≤ c := by omega
        have h5 : i ≤ c := by omega
        go_wp2_with (at_builtin; refine wpList_clear_rows _ rfl _ 43 rfl _ rfl (hcl _) ?_)
        go_ret
        exact HF.out
  · have hfl : l.filter (fun x => !p x) = l := by
      rw [List.filter_eq_self]
      intro x hx
      rw [hnone x hx]; rfl
    have hpst : DelFPostRW base (l.filter fun x => !p x) (Value.slice A l.length c).ownBlock w (.returned (.slice A l.length c)) w1 := ⟨_, rfl, by rw [hfl]; exact own_kept HO.out hb1, grown_below hb1, rfl⟩
    have HF := Lib.hid hpst; clear hpst
    clear hfl hnone hb1
    go_wp2_with fail
    go_ret
    exact HF.out
end Go.Proofs.YtlfeeiloijmagaaGreatDoor
