/- Several texts, joined for the limit of sixty files; each one opens with its own comment. -/
import Derived.Test.YteofiffbobbdmaaGreatDoorJoin25
import Derived.Test.YteofiffbobbdmaaGreatDoorJoin27
import Derived.Test.YteofiffbobbdmaaGreatDoorJoin17
import Derived.Test.YteofiffbobbdmaaGreatDoorJoin22
import Derived.Test.YteofiffbobbdmaaGreatDoorJoin21
import Derived.Test.YteofiffbobbdmaaGreatDoorChecked
import Derived.Test.YteofiffbobbdmaaGreatDoorJoin10
import Derived.Test.YteofiffbobbdmaaGreatDoorJoin5
import Derived.RegionTactic
import Derived.BigRegion
import Derived.Deep.RegionLaw
/- detect.Paths, at one tree and at two. -/
set_option linter.unusedVariables false
set_option linter.unusedSimpArgs false
namespace Go.Proofs.YteofiffbobbdmaaGreatDoor
open Go Go.RowKit Go.Shelf
open Sw
attribute [local go_sem] Oper.semAt_some
theorem SMapSB.ownF {W W' : World} {row : Option Nat} {bm : Nat} {X : List SbE} (h : SMapSB W bm X) (hg : W.grownBy W' row) (hr : ∀ r, row = some r → ∃ o : Obj, W.heap[r]? = some o ∧ o.isCells = false) : SMapSB W' bm X := by
  obtain ⟨v, hb, ho⟩ := h.row
  exact ⟨⟨v, blk_ownF hb hg hr, own_ownF ho hg hr⟩, h.up, h.ok⟩
theorem smapSB_blk {w : World} {bm : Nat} {X : List SbE} (h : SMapSB w bm X) : ∃ cs, Blk w bm 124 cs := by
  obtain ⟨v, hb, _⟩ := h.row
  exact ⟨_, hb⟩
theorem TreeAt.grownSB {w w' : World} {bt bmt bm : Nat} {xs : List NE} {X : List SbE} (h : TreeAt w bt bmt xs) (hm : SMapSB w bm X) (hg : w.grownBy w' (some bm)) : TreeAt w' bt bmt xs := by
  obtain ⟨cs, hB⟩ := smapSB_blk hm
  obtain ⟨v, hb, ho⟩ := h.map.row
  exact ⟨h.box.grown hg (fun e => by have e' : bt = bm := by simpa using e
                                     subst e'; exact Blk.other h.box hB (by decide) rfl), h.map.grown hg (fun e => by subst e; exact Blk.other hb hB (by decide) rfl) hB (by decide)⟩
/-- the set of paths in its map, and the box of the map -/
def PthI (T bm : Nat) (X : List SbE) (W : World) : Prop := Blk W T 86 #[.pointer (some ⟨bm, 0, none⟩)] ∧ SMapSB W bm X
theorem PthI.below {T bm : Nat} {X : List SbE} {A B : World} (h : PthI T bm X A) (hb : Below A.heap.size A B) : PthI T bm X B := ⟨h.1.below hb h.1.lt, h.2.below hb⟩
theorem PthI.ownF {T bm : Nat} {X : List SbE} {A B : World} {row : Option Nat} (h : PthI T bm X A) (hg : A.grownBy B row) (hr : ∀ r, row = some r → ∃ o : Obj, A.heap[r]? = some o ∧ o.isCells = false) : PthI T bm X B := ⟨blk_ownF h.1 hg hr, h.2.ownF hg hr⟩
theorem PthI.put {T bm : Nat} {X Y : List SbE} {A B : World} (h : PthI T bm X A) (hm : SMapSB B bm Y) (hg : A.grownBy B (some bm)) : PthI T bm Y B := by
  obtain ⟨cs, hB⟩ := smapSB_blk h.2
  exact ⟨h.1.grown hg (fun e => by have e' : T = bm := by simpa using e
                                   subst e'; exact Blk.other h.1 hB (by decide) rfl), hm⟩
theorem setP_one (X : List SbE) (ps : List ByteArray) (p : ByteArray) : setP X (ps ++ [p]) = putN ordS p true (setP X ps) := by rw [setP_app]; rfl
/-- words of a tree put into the set -/
def PtI (T bm B : Nat) (X0 : List SbE) (D0 : List Nat) (gb : Nat) (v : Value) (xs : List NE) (pre : List NE) (W : World) : Prop :=
  (PthI T bm (setP X0 (pre.map Prod.fst)) W ∧ gb < W.heap.size) ∧ Blk W gb 149 #[v] ∧ Lies W 152 5 eCSN v xs
theorem PtI.own (T bm B : Nat) (X0 : List SbE) (D0 : List Nat) (gb : Nat) (v : Value) (xs : List NE) : Own (PtI T bm B X0 D0 gb v xs) := fun _ A C row hs hg hr => ⟨⟨hs.1.1.ownF hg hr, Nat.lt_of_lt_of_le hs.1.2 hg.size⟩, blk_ownF hs.2.1 hg hr, hs.2.2.ownF hg hr⟩
theorem ownFrom_put {β : Type} {B d : Nat} {o : Obj} (hd : d < B) : OwnFrom B (fun (_ : β) (W : World) => W.heap[d]? = some o) :=
  fun _ X Y row hs hg hr => (hg.block d (Array.getElem?_eq_some_iff.1 hs).1 (fun e => by have := (hr d e.symm).1; omega)).trans hs
set_option maxRecDepth 100000 in
set_option maxHeartbeats 8000000 in
theorem paths1_any (w : World) (u1 u2 : Value) (l1 l2 : List MkE) (gs : Nat) (ts : TypeId) (bt bmt : Nat) (xs : List NE) (h1 : SlV w 6 eCM u1 l1) (h2 : SlV w 6 eCM u2 l2) (hl1 : l1.length ≤ 1000) (hl2 : l2.length ≤ 1000) (hp1 : ∀ m ∈ l1, m.1.size ≤ 90000) (hp2 : ∀ m ∈ l2, m.1.size ≤ 90000)
    (hgs : Blk w gs ts #[.pointer (some ⟨bt, 0, none⟩)]) (hT : TreeAt w bt bmt xs) (hxl : xs.length ≤ 1000) (hxp : ∀ e ∈ xs, e.1.size ≤ 90000) :
    Calls Tryz.prog 17 #[.agg #[u1, u2], .slice (some ⟨gs, 0, none⟩) 1 1] w fun e w' => ∃ u, e = .returned u ∧ w'.ownsRow w.heap.size 9 1 u (pathsS ((l1 ++ l2).map Prod.fst ++ xs.map Prod.fst)).length ((pathsS ((l1 ++ l2).map Prod.fst ++ xs.map Prod.fst)).map Value.string) ∧ Below w.heap.size w w' := by
  refine callsIn_wide.1 (?_ : CallsIn Fence.wide 9 _ _ _ _ _)
  refine callsIn_of_wp_marks Tryz.func17 rfl trivial ?_ rfl
  simp only [Tryz.ntmps17, List.size_toArray, List.length_cons, List.length_nil, Nat.reduceAdd, Nat.reduceSub, Array.replicate_succ, Array.replicate_zero, List.push_toArray, List.append_toArray, List.nil_append, List.cons_append]
  have hb0 : Below w.heap.size w (w.alloc (.cells #[u1, u2] 24)) := (Below.refl _ w).alloc (Nat.le_refl _) _
  have hB0 := Blk.new w 24 #[u1, u2]
  obtain ⟨W0, hW0⟩ : ∃ W0, w.alloc (.cells #[u1, u2] 24) = W0 := ⟨_, rfl⟩
  rw [hW0] at hb0 hB0
  have HN := Lib.hid (srtNewSB_any W0)
  have H0 := Lib.hid (And.intro hb0 (And.intro hB0 (And.intro (h1.below hb0 (Nat.le_refl _)) (And.intro (h2.below hb0 (Nat.le_refl _)) (And.intro (hT.below hb0) (hgs.below hb0 hgs.lt))))))
  have HW := Lib.hid hW0
  have HX := Lib.hid (And.intro hp1 (And.intro hp2 hxp))
  have HGL := Lib.hid hgs.lt
  clear h1 h2 hb0 hB0 hT hgs hW0 hp1 hp2 hxp
  gi_wp2
  rw [HW.out]
  refine ⟨trivial, (callsIn_wide.2 HN.out).mono ?_⟩
  rintro e w1 ⟨bm, rfl, hm, hbm, hb1⟩
  have hba : Below w1.heap.size w1 (w1.alloc (.cells #[.pointer (some ⟨bm, 0, none⟩)] 86)) := (Below.refl _ w1).alloc (Nat.le_refl _) _
  have hb2 := hb1.trans (hba.mono hb1.size)
  have H1 := Lib.hid (And.intro (show PthI w1.heap.size bm [] _ from ⟨Blk.new w1 _ _, hm.below hba⟩) (And.intro (H0.out.1.trans (hb2.mono H0.out.1.size)) (And.intro (H0.out.2.1.below hb2 H0.out.2.1.lt) (And.intro (H0.out.2.2.1.below hb2 (Nat.le_refl _)) (And.intro (H0.out.2.2.2.1.below hb2 (Nat.le_refl _)) (And.intro (H0.out.2.2.2.2.1.below hb2) (H0.out.2.2.2.2.2.below hb2 H0.out.2.2.2.2.2.lt)))))))
  have HM := Lib.hid (show w.heap.size ≤ bm from Nat.le_trans H0.out.1.size hbm)
  have q2a := H1.out.2.2.1.cell 0
  have q2b := H1.out.2.2.1.cell 1
  simp only [List.getElem?_toArray, List.getElem?_cons_succ, List.getElem?_cons_zero] at q2a q2b
  obtain ⟨W1, hW1⟩ : ∃ W1, w1.alloc (.cells #[.pointer (some ⟨bm, 0, none⟩)] 86) = W1 := ⟨_, rfl⟩
  obtain ⟨T, hTe⟩ : ∃ T, w1.heap.size = T := ⟨_, rfl⟩
  rw [hW1, hTe] at H1
  have HW1 := Lib.hid (And.intro hW1 hTe)
  have HBO := Lib.hid (both_any W1 u1 u2 l1 l2 H1.out.2.2.2.1 H1.out.2.2.2.2.1 (by omega) (by omega) HX.out.1 HX.out.2.1)
  clear hba hb2 hb1 hbm hm hW1 hTe HN H0
  gi_wp2
  rw [HW1.out.1, HW1.out.2]
  clear q2a q2b HW1
  refine ⟨trivial, (callsIn_wide.2 HBO.out).mono ?_⟩
  rintro e w2 ⟨u, L, rfl, hPm, ho, hb2⟩
  obtain ⟨A3, k3, rfl, hk3, -, -⟩ := SlV_of_any ho
  have hLl : L.length = l1.length + l2.length := by rw [hPm.length_eq, List.length_append]
  have hLp : ∀ m ∈ L, m.1.size ≤ 90000 := fun m hm => (List.mem_append.1 (hPm.mem_iff.1 hm)).elim (HX.out.1 m) (HX.out.2.1 m)
  have H2 := Lib.hid (And.intro (H1.out.1.below hb2) (And.intro (H1.out.2.1.trans (hb2.mono H1.out.2.1.size)) (And.intro ho (And.intro (H1.out.2.2.2.2.2.1.below hb2) (H1.out.2.2.2.2.2.2.below hb2 H1.out.2.2.2.2.2.2.lt)))))
  have HL := Lib.hid (And.intro hPm hLp)
  obtain ⟨n, hn⟩ : ∃ n, L.length = n := ⟨_, rfl⟩
  rw [hn] at H2 hLl hk3
  rw [hn]
  have HN := Lib.hid hn
  clear hPm hLp ho hb2 hn HBO H1
  gi_wp2
  gi_loopw [15] (fun iv wr => ∃ i : Nat, iv = .int .i64 i ∧ i ≤ n ∧ PthI T bm (setP [] ((L.take i).map Prod.fst)) wr ∧ Below w.heap.size w wr ∧ wr.ownsRow W1.heap.size 91 6 (.slice A3 n k3) n (L.flatMap eCM) ∧ TreeAt wr bt bmt xs ∧ Blk wr gs ts #[.pointer (some ⟨bt, 0, none⟩)]) (fun iv _ => n - (intOf iv).toNat)
  case atStart => exact ⟨0, rfl, Nat.zero_le _, H2.out.1, H2.out.2.1, H2.out.2.2.1, H2.out.2.2.2.1, H2.out.2.2.2.2⟩
  case round =>
    obtain ⟨i, rfl, hi, hP, hb, ho, hT, hgs⟩ := hrel
    by_cases hlt : i < n
    · have hiL : i < L.length := by have := HN.out; omega
      have hsl := SlV.of_own (l := L) ho eCM_len (by decide)
      obtain ⟨A', c', hA, _, _, hso⟩ := hsl
      obtain ⟨rfl, rfl⟩ : A3 = A' ∧ k3 = c' := by injection hA with e1 e2 e3; exact ⟨e1, e3⟩
      clear hA
      obtain ⟨b, off, rfl, hbb, hcs⟩ := hso (by omega)
      have c0 := hcs i hiL 0 (by omega)
      have c1 := hcs i hiL 1 (by omega)
      have c2 := hcs i hiL 2 (by omega)
      have c3' := hcs i hiL 3 (by omega)
      have c4 := hcs i hiL 4 (by omega)
      have c5 := hcs i hiL 5 (by omega)
      simp only [eCM, List.getElem?_cons_succ, List.getElem?_cons_zero, Nat.add_zero] at c0 c1 c2 c3' c4 c5
      clear hcs hso
      have hi1 : (i : Int) < n := by omega
      have hq := HL.out.2 _ (List.getElem_mem hiL)
      have hst : setP [] ((L.take (i + 1)).map Prod.fst) = putN ordS L[i].1 true (setP [] ((L.take i).map Prod.fst)) := by
        rw [List.take_succ_eq_append_getElem hiL, List.map_append, List.map_cons, List.map_nil, setP_one]
      have hsl := setP_len ((L.take i).map Prod.fst) []
      rw [List.length_map, List.length_take] at hsl
      simp only [List.length_nil, Nat.zero_add] at hsl
      obtain ⟨⟨q, ⟨kd, md, tm, sz, sm⟩⟩, hx⟩ : ∃ x, L[i] = x := ⟨_, rfl⟩
      simp only [hx] at c0 c1 c2 c3' c4 c5 hq hst
      clear hx
      have hba := (Below.refl wr.heap.size wr).alloc (Nat.le_refl _) (.cells #[.string q, .int .i64 kd, .int .i64 md, .int .u32 tm, .int .i64 sz, .int .u32 sm] 91)
      have HPI := Lib.hid (hP.below hba)
      have q5 := HPI.out.1.cell 0
      simp only [List.getElem?_toArray, List.getElem?_cons_succ, List.getElem?_cons_zero] at q5
      have HPU := Lib.hid (srtPutSB_any _ bm _ q true HPI.out.2 (by omega) hq)
      have HR := Lib.hid (And.intro (hb.trans (hba.mono hb.size)) (And.intro (own_kept ho hba) (And.intro (hT.below hba) (And.intro (hgs.below hba hgs.lt) hst))))
      clear hP hb ho hT hgs hba hst hsl
      gi_wp2
      refine ⟨trivial, (callsIn_wide.2 HPU.out).mono ?_⟩
      rintro e w5 ⟨rfl, hm5, hg5⟩
      have H5 := Lib.hid (And.intro (HPI.out.put hm5 hg5) (And.intro (HR.out.1.grown hg5 HR.out.1.size (fun k hk => by cases hk; exact HM.out)) (And.intro (show w5.ownsRow W1.heap.size 91 6 _ n (L.flatMap eCM) from by
        obtain ⟨cs, hB⟩ := smapSB_blk HPI.out.2
        exact own_grown_typSB HR.out.2.1 hg5 hB (by decide)) (And.intro (HR.out.2.2.1.grownSB HPI.out.2 hg5) (HR.out.2.2.2.1.grown hg5 (fun e => by
          have e' : gs = bm := by simpa using e
          have := HGL.out
          have := HM.out
          omega))))))
      clear hm5 hg5 q5 HPU
      gi_wp2
      go_roundw
      case rel => exact ⟨i + 1, by go_num, by omega, by rw [HR.out.2.2.2.2]; exact H5.out.1, H5.out.2.1, H5.out.2.2.1, H5.out.2.2.2.1, H5.out.2.2.2.2⟩
      case measure => simp [intOf]; omega
    · obtain rfl : i = n := by omega
      have hf : L.take i = L := List.take_of_length_le (by have := HN.out; omega)
      rw [hf] at hP
      clear hf ho
      have HR := Lib.hid (And.intro hP (And.intro hb (And.intro hT hgs)))
      have q1 := hgs.cell 0
      simp at q1
      clear hP hb hT hgs H2
      gi_wp2
      refine wpIn_loop_rounds 2 ?_
      rw [roundsIn_succ]
      gi_wp2
      generalize wr = w4 at *
      refine ⟨trivial, (callsIn_wide.2 (treeAll_any w4 bt bmt xs HR.out.2.2.1)).mono ?_⟩
      rintro e w6 ⟨gb, v, rfl, hgb, hL, hge, hvb, hb6⟩
      have hP6 := HR.out.1.below hb6
      have hB6 := HR.out.2.1.trans (hb6.mono HR.out.2.1.size)
      have hgl := hgb.lt
      obtain ⟨cs0, hcs0⟩ := smapSB_blk hP6.2
      have hbmgb : bm ≠ gb := fun e => by subst e; exact Blk.other hcs0 hgb (by decide) rfl
      have hbmv : 0 < xs.length → ∀ g, v.ownBlock = some g → bm ≠ g := fun h0 g hg e => by
        subst e
        obtain ⟨A, c, rfl, _, _, h3⟩ := hL
        obtain ⟨g', off, cur, rfl, hb, _⟩ := h3 h0
        cases hg
        exact Blk.other hcs0 hb (by decide) rfl
      have HNE := Lib.hid (And.intro hbmgb hbmv)
      have hup := hP6.2.up
      have hz6 := hB6.size
      clear hbmgb hbmv hcs0 hb6 hge q1
      gi_wp2
      refine wpIn_rangeFunc_tell (Mine := fun _ => False) (fun _ h => h.elim) rfl (by omega) (gf := 150) (lb := #[.pointer (some ⟨gb, 0, none⟩)]) rfl trivial (enters_of Tryz.func150 (by kernel_rfl) rfl)
        (toldSN_tells 8 (by omega) gb v xs w6 hgb hL (by omega)) KeepIt.trans (keepIt_b hgl hvb) (Below.refl _ _) (fun _ => rfl)
        (fun pre W => PtI T bm 0 (setP [] (L.map Prod.fst)) [] gb v xs pre W ∧ Below w.heap.size w W)
        (fun c pre W => False)
        (OwnM.of_none (OwnFrom.and (Own.from (PtI.own T bm 0 (setP [] (L.map Prod.fst)) [] gb v xs) _) (ownFrom_below (Nat.le_refl _) (by omega))))
        (fun c => OwnM.of_none (fun _ _ _ _ hs _ _ => hs.elim))
        ⟨⟨⟨hP6, hgl⟩, hgb, hL⟩, hB6⟩
        ?a1 ?assign ?body ?done ?stop
      case assign =>
        rintro l x W K hK
        gi_wp2
        exact hK
      case body =>
        rintro l pre x W ⟨⟨⟨hP, hglW⟩, hgW, hLW⟩, hB⟩ hTl
        have hx0 : 0 < xs.length := by obtain ⟨r, hr⟩ := hTl; rw [← hr]; simp; omega
        have hpl : pre.length + 1 ≤ 1000 := by obtain ⟨r, hr⟩ := hTl; have := congrArg List.length hr; simp at this; omega
        have hxm : x ∈ xs := by obtain ⟨r, hr⟩ := hTl; rw [← hr]; simp
        have hq := HX.out.2.2 x hxm
        have q5 := hP.1.cell 0
        simp only [List.getElem?_toArray, List.getElem?_cons_succ, List.getElem?_cons_zero] at q5
        have hsl := setP_len (pre.map Prod.fst) (setP [] (L.map Prod.fst))
        have hsl0 := setP_len (L.map Prod.fst) []
        rw [List.length_map] at hsl hsl0
        simp only [List.length_nil, Nat.zero_add] at hsl0
        have hLn := HN.out
        have HPU := Lib.hid (srtPutSB_any W bm _ x.1 true hP.2 (by omega) hq)
        have HR2 := Lib.hid (And.intro hP (And.intro hgW (And.intro hLW hB)))
        clear hP hgW hLW hB hTl hsl hsl0 hLn
        obtain ⟨q, nd⟩ := x
        simp only at HPU hq ⊢
        gi_wp2
        refine ⟨trivial, (callsIn_wide.2 HPU.out).mono ?_⟩
        rintro e w7 ⟨rfl, hm7, hg7⟩
        have hBm : Blk W bm 124 (smapSB_blk HR2.out.1.2).choose := (smapSB_blk HR2.out.1.2).choose_spec
        have hko := keeps_grownF hg7 hBm
        have hgK : KeepIt gb v W w7 := ⟨hg7.size, hg7.block gb hglW (fun e => HNE.out.1 (by simpa using e.symm)), fun g hg => hg7.block g (by
          obtain ⟨A, c, rfl, _, _, h3⟩ := HR2.out.2.2.1
          obtain ⟨g', off, cur, rfl, hbq, _⟩ := h3 hx0
          cases hg
          exact hbq.lt) (fun e => HNE.out.2 hx0 g hg (by simpa using e.symm))⟩
        have HF := Lib.hid (And.intro hko (And.intro hgK (And.intro (HR2.out.1.put hm7 hg7) (HR2.out.2.2.2.grown hg7 (by have := HR2.out.2.2.2.size; omega) (fun k hk => by cases hk; exact HM.out)))))
        clear hm7 hg7 hko hgK hBm q5
        gi_wp2
        refine ⟨HF.out.1, HF.out.2.1, ⟨⟨?_, Nat.lt_of_lt_of_le hglW HF.out.1.size⟩, ?_, ?_⟩, HF.out.2.2.2⟩
        · rw [List.map_append, List.map_cons, List.map_nil, setP_one]; exact HF.out.2.2.1
        · have := HF.out.2.1.box
          have h2 := HR2.out.2.1
          unfold Blk at h2 ⊢
          rw [this, h2]
        · exact HR2.out.2.2.1.kept (fun g cur h _ => HF.out.2.1.row g h)
      case done =>
        rintro D zs W hD hzs ⟨⟨⟨hP, hglW⟩, hgW, hLW⟩, hB⟩ hK
        have hz : zs = xs := hzs
        subst hz
        rw [← setP_app] at hP
        have q5 := hP.1.cell 0
        simp only [List.getElem?_toArray, List.getElem?_cons_succ, List.getElem?_cons_zero] at q5
        have hsl := setP_len (L.map Prod.fst ++ zs.map Prod.fst) []
        rw [List.length_append, List.length_map, List.length_map] at hsl
        simp only [List.length_nil, Nat.zero_add] at hsl
        have hLn := HN.out
        have HKE := Lib.hid (keysSB_any W bm _ hP.2 (by omega))
        have HR3 := Lib.hid (And.intro hP (And.intro hB hK))
        clear hP hB hK hgW hLW hsl hLn
        gi_wp2
        rw [roundsIn_succ]
        gi_wp2
        refine ⟨trivial, (callsIn_wide.2 HKE.out).mono ?_⟩
        rintro e w8 ⟨u, rfl, ho8, hb8⟩
        have hK8 : w8.heap[D]? = some (Obj.deferred (some [])) := (hb8.block D (Array.getElem?_eq_some_iff.1 HR3.out.2.2).1).trans HR3.out.2.2
        have hD' : w.heap.size ≤ D := by omega
        have hpe : (setP [] (L.map Prod.fst ++ zs.map Prod.fst)).map Prod.fst = pathsS ((l1 ++ l2).map Prod.fst ++ zs.map Prod.fst) :=
          (pathsS_eq (pathsS_rise _) (fun q => by
            rw [pathsS_mem]
            simp only [List.mem_append, List.mem_map, HL.out.1.mem_iff]))
        have hB8 := HR3.out.2.1.trans (hb8.mono HR3.out.2.1.size)
        have HF := Lib.hid (And.intro (own_wide ho8 HR3.out.2.1.size : w8.ownsRow w.heap.size _ _ _ _ _) (And.intro hB8 hpe))
        clear ho8 hb8 hpe hB8 q5
        gi_wp2
        refine ⟨by simp, .inl ⟨_, _, rfl, run_takeDeferred hK8, ?_⟩⟩
        refine ⟨_, results_tmp rfl _ _ _, ⟨u, rfl, ?_, ?_⟩⟩
        · have h1 := own_ownF HF.out.1 (grownBy_putObj' w8 D (.deferred none)) (fun r e => show ∃ o : Obj, w8.heap[r]? = some o ∧ o.isCells = false from (by cases (e : some D = some r); exact ⟨_, hK8, rfl⟩))
          rw [← HF.out.2.2, List.length_map, List.map_map]
          exact h1
        · exact HF.out.2.1.trans (belowK_b (w := w) (Nat.le_refl _) w8 D _ (.deferred none) hD' hK8 rfl rfl)
      case stop =>
        rintro D c pre W hD hSp h
        exact h.elim
end Go.Proofs.YteofiffbobbdmaaGreatDoor
/- detect.of, All. -/
set_option linter.unusedVariables false
set_option linter.unusedSimpArgs false
namespace Sw
open Go
theorem getT_size {xs : List NE} {p : ByteArray} {n : Nat} (hu : Up ordS xs) (h : ∀ e ∈ xs, e.2.data.size ≤ n) : (getT xs p).data.size ≤ n := by
  rcases Classical.em (∃ e ∈ xs, e.1 = p) with ⟨e, he, rfl⟩ | hn
  · rw [getT_in hu he]; exact h e he
  · rw [getT_out hu (fun e he h => hn ⟨e, he, h⟩)]; exact Nat.zero_le _
end Sw
namespace Go.Proofs.YteofiffbobbdmaaGreatDoor
open Go Go.RowKit
open Sw
set_option maxRecDepth 100000 in
set_option maxHeartbeats 4000000 in
theorem of_any (w : World) (u1 u2 : Value) (l1 l2 : List MkE) (bt bm : Nat) (xs : List NE) (p : ByteArray) (h1 : SlV w 6 eCM u1 l1) (h2 : SlV w 6 eCM u2 l2) (hl1 : l1.length ≤ 100000) (hl2 : l2.length ≤ 100000)
    (hT : TreeAt w bt bm xs) (hxl : xs.length ≤ 1000) (hxd : ∀ e ∈ xs, e.2.data.size ≤ maxLen) (hp : p.size ≤ 90000) :
    Calls Tryz.prog 37 #[.agg #[u1, u2], .pointer (some ⟨bt, 0, none⟩), .string p] w fun e w' => e = .returned (.int .i64 (ofP (l1 ++ l2) xs p)) ∧ Below w.heap.size w w' := by
  have hb0 : Below w.heap.size w (w.alloc (.cells #[u1, u2] 24)) := (Below.refl _ w).alloc (Nat.le_refl _) _
  have HF := Lib.hid (findM_any (w.alloc (.cells #[u1, u2] 24)) u1 u2 l1 l2 p (h1.below hb0 (Nat.le_refl _)) (h2.below hb0 (Nat.le_refl _)) hl1 hl2)
  have H0 := Lib.hid (And.intro hb0 (hT.below hb0))
  have hsz := getT_size (p := p) hT.map.up hxd
  have HA := Lib.hid (show stateN ((findM (l1 ++ l2) p).getD ⟨0, 0, 0, 0, 0⟩) (findM (l1 ++ l2) p).isSome (getT xs p) = ofP (l1 ++ l2) xs p from rfl)
  clear h1 h2 hb0 hT hxd
  generalize ofP (l1 ++ l2) xs p = ans at *
  generalize (findM (l1 ++ l2) p).getD ⟨0, 0, 0, 0, 0⟩ = pr at *
  generalize (findM (l1 ++ l2) p).isSome = had at *
  obtain ⟨nd, hnd⟩ : ∃ nd, getT xs p = nd := ⟨_, rfl⟩
  rw [hnd] at HA hsz
  have HST := Lib.hid (fun W => HA.out ▸ state_any W pr had nd hsz)
  have HGT := Lib.hid (fun W (h : TreeAt W bt bm xs) => hnd ▸ treeGet_any W bt bm xs p h (by omega) hp)
  clear hnd HA hsz
  obtain ⟨a, b, c, d, s⟩ := pr
  simp only [Pr.c] at HF HST
  go_enter Tryz.func37, Tryz.ntmps37
  go_wp2_with fail
  refine HF.out.mono ?_
  rintro e w1 ⟨rfl, hb1⟩
  obtain ⟨W, hW⟩ : ∃ W, w1.alloc (.cells #[.int .i64 a, .int .i64 b, .int .u32 c, .int .i64 d, .int .u32 s] 75) = W := ⟨_, rfl⟩
  have hba : Below w1.heap.size w1 W := by rw [← hW]; exact (Below.refl _ w1).alloc (Nat.le_refl _) _
  have hBN : Blk W w1.heap.size 75 #[.int .i64 a, .int .i64 b, .int .u32 c, .int .i64 d, .int .u32 s] := by rw [← hW]; exact Blk.new _ _ _
  have hTW := (H0.out.2.below hb1).below hba
  have HB := Lib.hid ((H0.out.1.trans (hb1.mono H0.out.1.size)).trans (hba.mono (H0.out.1.trans (hb1.mono H0.out.1.size)).size))
  obtain ⟨N, hN⟩ : ∃ N, w1.heap.size = N := ⟨_, rfl⟩
  rw [hN] at hBN
  have k0 : ∀ m : Held (Aft W), (HeldW m).cell? ⟨N, 0, none⟩ = some (.int .i64 a) := fun m => (Aft.cell m hBN.lt).trans (hBN.cell 0)
  have k1 : ∀ m : Held (Aft W), (HeldW m).cell? ⟨N, 1, none⟩ = some (.int .i64 b) := fun m => (Aft.cell m hBN.lt).trans (hBN.cell 1)
  have k2 : ∀ m : Held (Aft W), (HeldW m).cell? ⟨N, 2, none⟩ = some (.int .u32 c) := fun m => (Aft.cell m hBN.lt).trans (hBN.cell 2)
  have k3 : ∀ m : Held (Aft W), (HeldW m).cell? ⟨N, 3, none⟩ = some (.int .i64 d) := fun m => (Aft.cell m hBN.lt).trans (hBN.cell 3)
  have k4 : ∀ m : Held (Aft W), (HeldW m).cell? ⟨N, 4, none⟩ = some (.int .u32 s) := fun m => (Aft.cell m hBN.lt).trans (hBN.cell 4)
  have HG := Lib.hid (fun m : Held (Aft W) => HGT.out (HeldW m) (hTW.below (HeldW_spec m)))
  have HWN := Lib.hid (And.intro hW hN)
  clear hba hTW hW hN hBN hb1 HF H0
  haveI := Aft.some W
  go_upto_region 2 with fail
  rw [HWN.out.1, HWN.out.2]
  refine wp_region_class (Aft W) (by kernel_rfl) (by kernel_rfl) (Aft.start W) ?_
  repeat (go_big_quiet_step (first | with_reducible exact held_below Aft.keep (HG.out _) | with_reducible exact held_below Aft.keep (HST.out _)))
  refine wpQuiet_nil ?_
  rintro _ ⟨nn, rfl⟩
  have HW := Lib.hid (HB.out.trans ((HeldW_spec nn : Below W.heap.size W (HeldW nn)).mono HB.out.size))
  clear k0 k1 k2 k3 k4
  go_wp2_with fail
  go_ret
  exact ⟨rfl, HW.out⟩
end Go.Proofs.YteofiffbobbdmaaGreatDoor
/- slices.Clone of a row of detect.Found: the same elements, in memory of the call's own. -/
set_option linter.unusedVariables false
set_option linter.unusedSimpArgs false
namespace Go.Proofs.YteofiffbobbdmaaGreatDoor
open Go Go.RowKit
open Sw
theorem infoEFD : (Tryz.prog.info? 55).map (fun i => (i.zero, i.size, i.bytes)) = some (some (.agg #[.string ⟨#[]⟩, .int .i64 0]), 2, 24) := by kernel_rfl
end Go.Proofs.YteofiffbobbdmaaGreatDoor
/- Rows of detect.Found: their cells. -/
set_option linter.unusedVariables false
set_option linter.unusedSimpArgs false
namespace Go.Proofs.YteofiffbobbdmaaGreatDoor
open Go Go.RowKit
open Sw
/-- a state's cells -/
def eCFD (e : ByteArray × Int) : List Value := [.string e.1, .int .i64 e.2]
theorem eCFD_len (e : ByteArray × Int) : (eCFD e).length = 2 := rfl
theorem eCFD_one (e : ByteArray × Int) : ∀ u ∈ eCFD e, u.oneCell' = true := by
  intro u hu
  simp only [eCFD, List.mem_cons, List.not_mem_nil, or_false] at hu
  rcases hu with rfl | rfl <;> rfl
end Go.Proofs.YteofiffbobbdmaaGreatDoor
/- detect.All. -/
set_option linter.unusedVariables false
set_option linter.unusedSimpArgs false
namespace Go.Proofs.YteofiffbobbdmaaGreatDoor
open Go Go.RowKit
open Sw
abbrev FdE := ByteArray × Int
theorem infoFd : (Tryz.prog.info? 55).map (fun i => (i.zero, i.size, i.bytes)) = some (some (.agg #[.string ⟨#[]⟩, .int .i64 0]), 2, 24) := by kernel_rfl
/-- a row of states that the call owns -/
def OwnFd (w : World) (base : Nat) (u : Value) (l : List FdE) : Prop := w.ownsRow base 55 2 u l.length (l.flatMap eCFD)
theorem OwnFd.app {w1 : World} {base g cap n : Nat} {l : List FdE} {x : FdE} (h : w1.ownsRow base 55 2 (.slice (some ⟨g, 0, none⟩) (n + 1) cap) (n + 1) (l.flatMap eCFD ++ [.string x.1, .int .i64 x.2])) (hn : l.length = n) : OwnFd w1 base (.slice (some ⟨g, 0, none⟩) (n + 1) cap) (l ++ [x]) := by
  unfold OwnFd
  rw [List.length_append, List.length_singleton, hn, List.flatMap_append]
  simpa [eCFD] using h
set_option maxRecDepth 100000 in
set_option maxHeartbeats 8000000 in
theorem detAll_any (w : World) (u1 u2 : Value) (l1 l2 : List MkE) (bt bm : Nat) (xs : List NE) (h1 : SlV w 6 eCM u1 l1) (h2 : SlV w 6 eCM u2 l2) (hl1 : l1.length ≤ 1000) (hl2 : l2.length ≤ 1000) (hp1 : ∀ m ∈ l1, m.1.size ≤ 90000) (hp2 : ∀ m ∈ l2, m.1.size ≤ 90000)
    (hT : TreeAt w bt bm xs) (hxl : xs.length ≤ 1000) (hxp : ∀ e ∈ xs, e.1.size ≤ 90000) (hxd : ∀ e ∈ xs, e.2.data.size ≤ maxLen) :
    Calls Tryz.prog 12 #[.agg #[u1, u2], .pointer (some ⟨bt, 0, none⟩)] w fun e w' => ∃ u, e = .returned u ∧ OwnFd w' w.heap.size u (allP (l1 ++ l2) xs) ∧ Below w.heap.size w w' := by
  obtain ⟨W0, hW0⟩ : ∃ W0, (w.alloc (.cells #[u1, u2] 24)).alloc (.cells #[.pointer (some ⟨bt, 0, none⟩)] 28) = W0 := ⟨_, rfl⟩
  have hb0 : Below w.heap.size w W0 := by rw [← hW0]; exact ((Below.refl _ w).alloc (Nat.le_refl _) _).alloc (by simp) _
  have hB0 : Blk W0 w.heap.size 24 #[u1, u2] := by rw [← hW0]; exact blk_fst _ _ _ _
  have hG0 : Blk W0 (w.heap.size + 1) 28 #[.pointer (some ⟨bt, 0, none⟩)] := by rw [← hW0]; exact blk_snd _ _ _ _
  have HP := Lib.hid (paths1_any W0 u1 u2 l1 l2 (w.heap.size + 1) _ bt bm xs (h1.below hb0 (Nat.le_refl _)) (h2.below hb0 (Nat.le_refl _)) hl1 hl2 hp1 hp2 hG0 (hT.below hb0) hxl hxp)
  have HW := Lib.hid hW0
  have H0 := Lib.hid (And.intro hb0 (And.intro hB0 (And.intro h1 (And.intro h2 hT))))
  have hps : ∀ p ∈ pathsS ((l1 ++ l2).map Prod.fst ++ xs.map Prod.fst), p.size ≤ 90000 := fun p hp => by
    rw [pathsS_mem, List.mem_append] at hp
    rcases hp with hp | hp
    · obtain ⟨m, hm, rfl⟩ := List.mem_map.1 hp
      exact (List.mem_append.1 hm).elim (hp1 m) (hp2 m)
    · obtain ⟨e, he, rfl⟩ := List.mem_map.1 hp
      exact hxp e he
  have hpl : (pathsS ((l1 ++ l2).map Prod.fst ++ xs.map Prod.fst)).length ≤ 3000 := Nat.le_trans (pathsS_len _) (by rw [List.length_append, List.length_map, List.length_map, List.length_append]; omega)
  have HA := Lib.hid (show allP (l1 ++ l2) xs = (pathsS ((l1 ++ l2).map Prod.fst ++ xs.map Prod.fst)).map fun p => (p, ofP (l1 ++ l2) xs p) from rfl)
  have HX := Lib.hid hxd
  generalize allP (l1 ++ l2) xs = ans at *
  generalize pathsS ((l1 ++ l2).map Prod.fst ++ xs.map Prod.fst) = ps at *
  have HPS := Lib.hid hps
  clear hb0 hB0 hG0 hW0 h1 h2 hT hps hp1 hp2 hxp hxd
  go_enter Tryz.func12, Tryz.ntmps12
  go_wp2_with fail
  rw [HW.out]
  refine HP.out.mono ?_
  rintro e w1 ⟨u, rfl, ho, hb1⟩
  rw [← flat_bE] at ho
  obtain ⟨A3, k3, rfl, hk3, -, -⟩ := SlV_of_any ho
  have H1 := Lib.hid (And.intro (SlV.of_own (l := ps) ho bE_len (by decide)) (And.intro (H0.out.1.trans (hb1.mono H0.out.1.size)) (H0.out.2.1.below hb1 H0.out.2.1.lt)))
  obtain ⟨n, hn⟩ : ∃ n, ps.length = n := ⟨_, rfl⟩
  rw [hn] at H1 hpl hk3
  rw [hn]
  have HN := Lib.hid hn
  clear ho hb1 hn HP
  go_wp2_with fail
  go_loopw [4, 12] (fun o iv wr => ∃ i : Nat, iv = .int .i64 i ∧ i ≤ n ∧ OwnFd wr w1.heap.size o ((ps.take i).map fun p => (p, ofP (l1 ++ l2) xs p)) ∧ Below w1.heap.size w1 wr) (fun _ iv _ => n - (intOf iv).toNat)
  case atStart => exact ⟨0, rfl, Nat.zero_le _, World.ownsRow_nil _ _ _ _, Below.refl _ _⟩
  case round =>
    obtain ⟨i, rfl, hi, ho, hb⟩ := hrel
    have hbw := H1.out.2.1.trans (hb.mono H1.out.2.1.size)
    have hbs := hbw.size
    have hB := H1.out.2.2.below hb H1.out.2.2.lt
    have q0 := hB.cell 0
    have q1 := hB.cell 1
    simp at q0 q1
    by_cases hlt : i < n
    · have hiL : i < ps.length := by have := HN.out; omega
      obtain ⟨A', c', hA', _, _, hso⟩ := H1.out.1.below hb (Nat.le_refl _)
      obtain ⟨rfl, rfl⟩ : A3 = A' ∧ k3 = c' := by injection hA' with e1 e2 e3; exact ⟨e1, e3⟩
      clear hA'
      obtain ⟨b, off, rfl, hbb, hcs⟩ := hso (by omega)
      have c0 := hcs i hiL 0 (by omega)
      simp only [bE, List.getElem?_cons_zero, Nat.add_zero, Nat.mul_one] at c0
      clear hcs hso
      have hi1 : (i : Int) < n := by omega
      have hq := HPS.out _ (List.getElem_mem hiL)
      have hst : (ps.take (i + 1)).map (fun p => (p, ofP (l1 ++ l2) xs p)) = (ps.take i).map (fun p => (p, ofP (l1 ++ l2) xs p)) ++ [(ps[i], ofP (l1 ++ l2) xs ps[i])] := by
        rw [List.take_succ_eq_append_getElem hiL, List.map_append]; rfl
      have hml : ((ps.take i).map fun p => (p, ofP (l1 ++ l2) xs p)).length = i := by rw [List.length_map, List.length_take]; omega
      obtain ⟨q, hx⟩ : ∃ x, ps[i] = x := ⟨_, rfl⟩
      simp only [hx] at c0 hq hst
      clear hx
      have HOF := Lib.hid (of_any wr u1 u2 l1 l2 bt bm xs q (H0.out.2.2.1.below hbw (Nat.le_refl _)) (H0.out.2.2.2.1.below hbw (Nat.le_refl _)) (by omega) (by omega) (H0.out.2.2.2.2.below hbw) hxl HX.out hq)
      obtain ⟨A4, k4, rfl, _, _, _⟩ := SlV_of_any ho
      have HO := Lib.hid ho
      have HR := Lib.hid (And.intro hst (And.intro hb hbw))
      have HML := Lib.hid hml
      clear ho hb hB hst hbw
      generalize (ps.take i).map (fun p => (p, ofP (l1 ++ l2) xs p)) = F at *
      unfold OwnFd at HO
      rw [hml] at HO ⊢
      clear hml
      generalize ofP (l1 ++ l2) xs q = st at *
      go_wp2_with fail
      refine HOF.out.mono ?_
      rintro e w2 ⟨rfl, hb2⟩
      have HO2 := Lib.hid (own_kept HO.out hb2)
      have HB2 := Lib.hid (HR.out.2.1.trans (hb2.mono HR.out.2.1.size))
      have hbs2 := HB2.out.size
      clear hb2 q0 q1
      go_wp2_with (at_builtin; refine wpList_app rfl _ _ 38 rfl w1.heap.size 55 (.agg #[.string ⟨#[]⟩, .int .i64 0]) 2 24 Tryz.underlying38 infoFd rfl (by decide) _ i _ rfl (HO2.out.alloc _) w2.heap.size 1 #[.string q, .int .i64 st] 55 rfl (Blk.new _ _ _) rfl (by simp [Value.oneCell']) (by omega) (by decide) (by simp; omega) _ rfl ?_; intro g cap w3 hown1 hgrow1 hat hlt1)
      have HNX := Lib.hid (And.intro (OwnFd.app (x := (q, st)) hown1 HML.out) (own_below HO2.out (HB2.out.alloc HB2.out.size _) hgrow1 (Nat.le_refl _) (by simp; omega)))
      clear hown1 hgrow1 hat hlt1
      go_wp2_with fail
      go_roundw
      case rel => exact ⟨i + 1, by go_num, by omega, by rw [HR.out.1]; exact HNX.out.1, HNX.out.2⟩
      case measure => simp [intOf]; omega
    · obtain rfl : i = n := by omega
      have hf : ps.take i = ps := List.take_of_length_le (by have := HN.out; omega)
      rw [hf, ← HA.out] at ho
      obtain ⟨A4, k4, rfl, _, _, _⟩ := SlV_of_any ho
      have h9 : OwnFd wr w.heap.size (.slice A4 ans.length k4) ans := own_wide ho H1.out.2.1.size
      have HF := Lib.hid (And.intro h9 hbw)
      clear h9
      clear ho hb hB hf hbw
      generalize ans.length = z at *
      go_wp2_with fail
      go_ret
      exact ⟨_, rfl, HF.out.1, HF.out.2⟩
end Go.Proofs.YteofiffbobbdmaaGreatDoor
/- slices.Reverse of a row of detect.Found that the call owns. -/
set_option linter.unusedVariables false
set_option linter.unusedSimpArgs false
namespace Go.Proofs.YteofiffbobbdmaaGreatDoor
open Go Go.RowKit
open Sw
end Go.Proofs.YteofiffbobbdmaaGreatDoor
/- slices.Insert of one element into a row of detect.Found that the call owns. -/
set_option linter.unusedVariables false
set_option linter.unusedSimpArgs false
namespace Go.Proofs.YteofiffbobbdmaaGreatDoor
open Go Go.RowKit
open Sw
/-- behind the call: a row with one more element -/
def InsPostFD (base n : Nat) (xs : List Value) (row : Option Nat) (w : World) (e : Ending) (w' : World) : Prop :=
  ∃ g cap, e = .returned (.slice (some ⟨g, 0, none⟩) (n + 1) cap) ∧ w'.ownsRow base 55 2 (.slice (some ⟨g, 0, none⟩) (n + 1) cap) (n + 1) xs ∧ w.grownBy w' row ∧ (row = some g ∨ w.heap.size ≤ g)
end Go.Proofs.YteofiffbobbdmaaGreatDoor
/- slices.Delete of one element out of a row of detect.Found that the call owns. -/
set_option linter.unusedVariables false
set_option linter.unusedSimpArgs false
namespace Go.Proofs.YteofiffbobbdmaaGreatDoor
open Go Go.RowKit
open Sw
/-- behind the call: a row with one element less -/
def DelPostFD (base n : Nat) (xs : List Value) (row : Option Nat) (w : World) (e : Ending) (w' : World) : Prop :=
  ∃ v, e = .returned v ∧ w'.ownsRow base 55 2 v n xs ∧ w.grownBy w' row ∧ v.ownBlock = row
end Go.Proofs.YteofiffbobbdmaaGreatDoor
