/- Several texts, joined for the limit of sixty files; each one opens with its own comment. -/
import Derived.Test.YteofiffbobbdmaaGreatDoorJoin32
import Derived.Test.YteofiffbobbdmaaGreatDoorChecked
import Derived.Test.YteofiffbobbdmaaGreatDoorJoin10
import Derived.Test.YteofiffbobbdmaaGreatDoorJoin8
import Derived.Test.YteofiffbobbdmaaGreatDoorJoin5
/- detect.Paths, at two trees. -/
set_option linter.unusedVariables false
set_option linter.unusedSimpArgs false
namespace Go.Proofs.YteofiffbobbdmaaGreatDoor
open Go Go.RowKit Go.Shelf
open Sw
attribute [local go_sem] Oper.semAt_some
theorem TreeAt.ownF {W W' : World} {row : Option Nat} {bt bm : Nat} {X : List NE} (h : TreeAt W bt bm X) (hg : W.grownBy W' row) (hr : ∀ r, row = some r → ∃ o : Obj, W.heap[r]? = some o ∧ o.isCells = false) : TreeAt W' bt bm X := by
  refine ⟨blk_ownF h.box hg hr, ?_⟩
  obtain ⟨v, hb, ho⟩ := h.map.row
  exact ⟨⟨v, blk_ownF hb hg hr, own_ownF ho hg hr⟩, h.map.up, h.map.ok⟩
/-- words of a tree put into the set, the row of trees and another tree in their places -/
def Pt2I (T bm : Nat) (X0 : List SbE) (gs : Nat) (ts : TypeId) (p1 p2 : Value) (bt2 bmt2 : Nat) (xs2 : List NE) (gb : Nat) (v : Value) (xs : List NE) (pre : List NE) (W : World) : Prop :=
  PtI T bm 0 X0 [] gb v xs pre W ∧ Blk W gs ts #[p1, p2] ∧ TreeAt W bt2 bmt2 xs2
theorem Pt2I.own (T bm : Nat) (X0 : List SbE) (gs : Nat) (ts : TypeId) (p1 p2 : Value) (bt2 bmt2 : Nat) (xs2 : List NE) (gb : Nat) (v : Value) (xs : List NE) : Own (Pt2I T bm X0 gs ts p1 p2 bt2 bmt2 xs2 gb v xs) := fun s A C row hs hg hr => ⟨PtI.own T bm 0 X0 [] gb v xs s A C row hs.1 hg hr, blk_ownF hs.2.1 hg hr, hs.2.2.ownF hg hr⟩
set_option maxRecDepth 100000 in
set_option maxHeartbeats 8000000 in
theorem paths2_any (w : World) (u1 u2 : Value) (l1 l2 : List MkE) (gs : Nat) (ts : TypeId) (bt bmt bt2 bmt2 : Nat) (xs xs2 : List NE) (h1 : SlV w 6 eCM u1 l1) (h2 : SlV w 6 eCM u2 l2) (hl1 : l1.length ≤ 1000) (hl2 : l2.length ≤ 1000) (hp1 : ∀ m ∈ l1, m.1.size ≤ 90000) (hp2 : ∀ m ∈ l2, m.1.size ≤ 90000)
    (hgs : Blk w gs ts #[.pointer (some ⟨bt, 0, none⟩), .pointer (some ⟨bt2, 0, none⟩)]) (hT : TreeAt w bt bmt xs) (hT2 : TreeAt w bt2 bmt2 xs2) (hxl : xs.length ≤ 1000) (hxp : ∀ e ∈ xs, e.1.size ≤ 90000) (hxl2 : xs2.length ≤ 1000) (hxp2 : ∀ e ∈ xs2, e.1.size ≤ 90000) :
    Calls Tryz.prog 17 #[.agg #[u1, u2], .slice (some ⟨gs, 0, none⟩) 2 2] w fun e w' => ∃ u, e = .returned u ∧ w'.ownsRow w.heap.size 9 1 u (pathsS ((l1 ++ l2).map Prod.fst ++ (xs.map Prod.fst ++ xs2.map Prod.fst))).length ((pathsS ((l1 ++ l2).map Prod.fst ++ (xs.map Prod.fst ++ xs2.map Prod.fst))).map Value.string) ∧ Below w.heap.size w w' := by
  refine callsIn_wide.1 (?_ : CallsIn Fence.wide 9 _ _ _ _ _)
  refine callsIn_of_wp_marks Tryz.func17 rfl trivial ?_ rfl
  simp only [Tryz.ntmps17, List.size_toArray, List.length_cons, List.length_nil, Nat.reduceAdd, Nat.reduceSub, Array.replicate_succ, Array.replicate_zero, List.push_toArray, List.append_toArray, List.nil_append, List.cons_append]
  have hb0 : Below w.heap.size w (w.alloc (.cells #[u1, u2] 24)) := (Below.refl _ w).alloc (Nat.le_refl _) _
  have hB0 := Blk.new w 24 #[u1, u2]
  obtain ⟨W0, hW0⟩ : ∃ W0, w.alloc (.cells #[u1, u2] 24) = W0 := ⟨_, rfl⟩
  rw [hW0] at hb0 hB0
  have HN := Lib.hid (srtNewSB_any W0)
  have H0 := Lib.hid (And.intro hb0 (And.intro hB0 (And.intro (h1.below hb0 (Nat.le_refl _)) (And.intro (h2.below hb0 (Nat.le_refl _)) (And.intro (hT.below hb0) (And.intro (hgs.below hb0 hgs.lt) (hT2.below hb0)))))))
  have HW := Lib.hid hW0
  have HX := Lib.hid (And.intro hp1 (And.intro hp2 hxp))
  have HX2 := Lib.hid hxp2
  have HGL := Lib.hid hgs.lt
  clear h1 h2 hb0 hB0 hT hgs hW0 hp1 hp2 hxp hT2 hxp2
  gi_wp2
  rw [HW.out]
  refine ⟨trivial, (callsIn_wide.2 HN.out).mono ?_⟩
  rintro e w1 ⟨bm, rfl, hm, hbm, hb1⟩
  have hba : Below w1.heap.size w1 (w1.alloc (.cells #[.pointer (some ⟨bm, 0, none⟩)] 86)) := (Below.refl _ w1).alloc (Nat.le_refl _) _
  have hb2 := hb1.trans (hba.mono hb1.size)
  have H1 := Lib.hid (And.intro (show PthI w1.heap.size bm [] _ from ⟨Blk.new w1 _ _, hm.below hba⟩) (And.intro (H0.out.1.trans (hb2.mono H0.out.1.size)) (And.intro (H0.out.2.1.below hb2 H0.out.2.1.lt) (And.intro (H0.out.2.2.1.below hb2 (Nat.le_refl _)) (And.intro (H0.out.2.2.2.1.below hb2 (Nat.le_refl _)) (And.intro (H0.out.2.2.2.2.1.below hb2) (And.intro (H0.out.2.2.2.2.2.1.below hb2 H0.out.2.2.2.2.2.1.lt) (H0.out.2.2.2.2.2.2.below hb2))))))))
  have HM := Lib.hid (show w.heap.size ≤ bm from Nat.le_trans H0.out.1.size hbm)
  have q2a := H1.out.2.2.1.cell 0
  have q2b := H1.out.2.2.1.cell 1
  simp only [List.getElem?_toArray, List.getElem?_cons_succ, List.getElem?_cons_zero] at q2a q2b
  obtain ⟨W1, hW1⟩ : ∃ W1, w1.alloc (.cells #[.pointer (some ⟨bm, 0, none⟩)] 86) = W1 := ⟨_, rfl⟩
  obtain ⟨T, hTe⟩ : ∃ T, w1.heap.size = T := ⟨_, rfl⟩
  rw [hW1, hTe] at H1
  have HW1 := Lib.hid (And.intro hW1 hTe)
  have HBO := Lib.hid (both_any W1 u1 u2 l1 l2 H1.out.2.2.2.1 H1.out.2.2.2.2.1 (by omega) (by omega) HX.out.1 HX.out.2.1)
  clear hba hb2 hb1 hbm hm hW1 hTe HN H0
  gi_wp2
  rw [HW1.out.1, HW1.out.2]
  clear q2a q2b HW1
  refine ⟨trivial, (callsIn_wide.2 HBO.out).mono ?_⟩
  rintro e w2 ⟨u, L, rfl, hPm, ho, hb2⟩
  obtain ⟨A3, k3, rfl, hk3, -, -⟩ := SlV_of_any ho
  have hLl : L.length = l1.length + l2.length := by rw [hPm.length_eq, List.length_append]
  have hLp : ∀ m ∈ L, m.1.size ≤ 90000 := fun m hm => (List.mem_append.1 (hPm.mem_iff.1 hm)).elim (HX.out.1 m) (HX.out.2.1 m)
  have H2 := Lib.hid (And.intro (H1.out.1.below hb2) (And.intro (H1.out.2.1.trans (hb2.mono H1.out.2.1.size)) (And.intro ho (And.intro (H1.out.2.2.2.2.2.1.below hb2) (And.intro (H1.out.2.2.2.2.2.2.1.below hb2 H1.out.2.2.2.2.2.2.1.lt) (H1.out.2.2.2.2.2.2.2.below hb2))))))
  have HL := Lib.hid (And.intro hPm hLp)
  obtain ⟨n, hn⟩ : ∃ n, L.length = n := ⟨_, rfl⟩
  rw [hn] at H2 hLl hk3
  rw [hn]
  have HN := Lib.hid hn
  clear hPm hLp ho hb2 hn HBO H1
  gi_wp2
  gi_loopw [15] (fun iv wr => ∃ i : Nat, iv = .int .i64 i ∧ i ≤ n ∧ PthI T bm (setP [] ((L.take i).map Prod.fst)) wr ∧ Below w.heap.size w wr ∧ wr.ownsRow W1.heap.size 91 6 (.slice A3 n k3) n (L.flatMap eCM) ∧ TreeAt wr bt bmt xs ∧ Blk wr gs ts #[.pointer (some ⟨bt, 0, none⟩), .pointer (some ⟨bt2, 0, none⟩)] ∧ TreeAt wr bt2 bmt2 xs2) (fun iv _ => n - (intOf iv).toNat)
  case atStart => exact ⟨0, rfl, Nat.zero_le _, H2.out.1, H2.out.2.1, H2.out.2.2.1, H2.out.2.2.2.1, H2.out.2.2.2.2.1, H2.out.2.2.2.2.2⟩
  case round =>
    obtain ⟨i, rfl, hi, hP, hb, ho, hT, hgs, hT2⟩ := hrel
    by_cases hlt : i < n
    · have hiL : i < L.length := by have := HN.out; omega
      have hsl := SlV.of_own (l := L) ho eCM_len (by decide)
      obtain ⟨A', c', hA, _, _, hso⟩ := hsl
      obtain ⟨rfl, rfl⟩ : A3 = A' ∧ k3 = c' := by injection hA with e1 e2 e3; exact ⟨e1, e3⟩
      clear hA
      obtain ⟨b, off, rfl, hbb, hcs⟩ := hso (by omega)
      have c0 := hcs i hiL 0 (by omega)
      have c1 := hcs i hiL 1 (by omega)
      have c2 := hcs i hiL 2 (by omega)
      have c3' := hcs i hiL 3 (by omega)
      have c4 := hcs i hiL 4 (by omega)
      have c5 := hcs i hiL 5 (by omega)
      simp only [eCM, List.getElem?_cons_succ, List.getElem?_cons_zero, Nat.add_zero] at c0 c1 c2 c3' c4 c5
      clear hcs hso
      have hi1 : (i : Int) < n := by omega
      have hq := HL.out.2 _ (List.getElem_mem hiL)
      have hst : setP [] ((L.take (i + 1)).map Prod.fst) = putN ordS L[i].1 true (setP [] ((L.take i).map Prod.fst)) := by
        rw [List.take_succ_eq_append_getElem hiL, List.map_append, List.map_cons, List.map_nil, setP_one]
      have hsl := setP_len ((L.take i).map Prod.fst) []
      rw [List.length_map, List.length_take] at hsl
      simp only [List.length_nil, Nat.zero_add] at hsl
      obtain ⟨⟨q, ⟨kd, md, tm, sz, sm⟩⟩, hx⟩ : ∃ x, L[i] = x := ⟨_, rfl⟩
      simp only [hx] at c0 c1 c2 c3' c4 c5 hq hst
      clear hx
      have hba := (Below.refl wr.heap.size wr).alloc (Nat.le_refl _) (.cells #[.string q, .int .i64 kd, .int .i64 md, .int .u32 tm, .int .i64 sz, .int .u32 sm] 91)
      have HPI := Lib.hid (hP.below hba)
      have q5 := HPI.out.1.cell 0
      simp only [List.getElem?_toArray, List.getElem?_cons_succ, List.getElem?_cons_zero] at q5
      have HPU := Lib.hid (srtPutSB_any _ bm _ q true HPI.out.2 (by omega) hq)
      have HR := Lib.hid (And.intro (hb.trans (hba.mono hb.size)) (And.intro (own_kept ho hba) (And.intro (hT.below hba) (And.intro (hgs.below hba hgs.lt) (And.intro hst (hT2.below hba))))))
      clear hP hb ho hT hgs hba hst hsl hT2
      gi_wp2
      refine ⟨trivial, (callsIn_wide.2 HPU.out).mono ?_⟩
      rintro e w5 ⟨rfl, hm5, hg5⟩
      have H5 := Lib.hid (And.intro (HPI.out.put hm5 hg5) (And.intro (HR.out.1.grown hg5 HR.out.1.size (fun k hk => by cases hk; exact HM.out)) (And.intro (show w5.ownsRow W1.heap.size 91 6 _ n (L.flatMap eCM) from by
        obtain ⟨cs, hB⟩ := smapSB_blk HPI.out.2
        exact own_grown_typSB HR.out.2.1 hg5 hB (by decide)) (And.intro (HR.out.2.2.1.grownSB HPI.out.2 hg5) (And.intro (HR.out.2.2.2.1.grown hg5 (fun e => by
          have e' : gs = bm := by simpa using e
          have := HGL.out
          have := HM.out
          omega)) (HR.out.2.2.2.2.2.grownSB HPI.out.2 hg5)))))) 
      clear hm5 hg5 q5 HPU
      gi_wp2
      go_roundw
      case rel => exact ⟨i + 1, by go_num, by omega, by rw [HR.out.2.2.2.2.1]; exact H5.out.1, H5.out.2.1, H5.out.2.2.1, H5.out.2.2.2.1, H5.out.2.2.2.2.1, H5.out.2.2.2.2.2⟩
      case measure => simp [intOf]; omega
    · obtain rfl : i = n := by omega
      have hf : L.take i = L := List.take_of_length_le (by have := HN.out; omega)
      rw [hf] at hP
      clear hf ho
      have HR := Lib.hid (And.intro hP (And.intro hb (And.intro hT (And.intro hgs hT2))))
      have q1 := hgs.cell 0
      simp at q1
      clear hP hb hT hgs hT2 H2
      gi_wp2
      refine wpIn_loop_rounds 3 ?_
      rw [roundsIn_succ]
      gi_wp2
      generalize wr = w4 at *
      refine ⟨trivial, (callsIn_wide.2 (treeAll_any w4 bt bmt xs HR.out.2.2.1)).mono ?_⟩
      rintro e w6 ⟨gb, v, rfl, hgb, hL, hge, hvb, hb6⟩
      have hP6 := HR.out.1.below hb6
      have hB6 := HR.out.2.1.trans (hb6.mono HR.out.2.1.size)
      have hgl := hgb.lt
      obtain ⟨cs0, hcs0⟩ := smapSB_blk hP6.2
      have hbmgb : bm ≠ gb := fun e => by subst e; exact Blk.other hcs0 hgb (by decide) rfl
      have hbmv : 0 < xs.length → ∀ g, v.ownBlock = some g → bm ≠ g := fun h0 g hg e => by
        subst e
        obtain ⟨A, c, rfl, _, _, h3⟩ := hL
        obtain ⟨g', off, cur, rfl, hb, _⟩ := h3 h0
        cases hg
        exact Blk.other hcs0 hb (by decide) rfl
      have HNE := Lib.hid (And.intro hbmgb hbmv)
      have hup := hP6.2.up
      have hz6 := hB6.size
      have hgs6 := HR.out.2.2.2.1.below hb6 HR.out.2.2.2.1.lt
      have hT26 := HR.out.2.2.2.2.below hb6
      clear hbmgb hbmv hcs0 hb6 hge q1
      gi_wp2
      refine wpIn_rangeFunc_tell (Mine := fun _ => False) (fun _ h => h.elim) rfl (by omega) (gf := 150) (lb := #[.pointer (some ⟨gb, 0, none⟩)]) rfl trivial (enters_of Tryz.func150 (by kernel_rfl) rfl)
        (toldSN_tells 8 (by omega) gb v xs w6 hgb hL (by omega)) KeepIt.trans (keepIt_b hgl hvb) (Below.refl _ _) (fun _ => rfl)
        (fun pre W => Pt2I T bm (setP [] (L.map Prod.fst)) gs ts (.pointer (some ⟨bt, 0, none⟩)) (.pointer (some ⟨bt2, 0, none⟩)) bt2 bmt2 xs2 gb v xs pre W ∧ Below w.heap.size w W)
        (fun c pre W => False)
        (OwnM.of_none (OwnFrom.and (Own.from (Pt2I.own T bm (setP [] (L.map Prod.fst)) gs ts (.pointer (some ⟨bt, 0, none⟩)) (.pointer (some ⟨bt2, 0, none⟩)) bt2 bmt2 xs2 gb v xs) _) (ownFrom_below (Nat.le_refl _) (by omega))))
        (fun c => OwnM.of_none (fun _ _ _ _ hs _ _ => hs.elim))
        ⟨⟨⟨⟨hP6, hgl⟩, hgb, hL⟩, hgs6, hT26⟩, hB6⟩
        ?a1 ?assign ?body ?done ?stop
      case assign =>
        rintro l x W K hK
        gi_wp2
        exact hK
      case body =>
        rintro l pre x W ⟨⟨⟨⟨hP, hglW⟩, hgW, hLW⟩, hgsW, hT2W⟩, hB⟩ hTl
        have hx0 : 0 < xs.length := by obtain ⟨r, hr⟩ := hTl; rw [← hr]; simp; omega
        have hpl : pre.length + 1 ≤ 1000 := by obtain ⟨r, hr⟩ := hTl; have := congrArg List.length hr; simp at this; omega
        have hxm : x ∈ xs := by obtain ⟨r, hr⟩ := hTl; rw [← hr]; simp
        have hq := HX.out.2.2 x hxm
        have q5 := hP.1.cell 0
        simp only [List.getElem?_toArray, List.getElem?_cons_succ, List.getElem?_cons_zero] at q5
        have hsl := setP_len (pre.map Prod.fst) (setP [] (L.map Prod.fst))
        have hsl0 := setP_len (L.map Prod.fst) []
        rw [List.length_map] at hsl hsl0
        simp only [List.length_nil, Nat.zero_add] at hsl0
        have hLn := HN.out
        have HPU := Lib.hid (srtPutSB_any W bm _ x.1 true hP.2 (by omega) hq)
        have HR2 := Lib.hid (And.intro hP (And.intro hgW (And.intro hLW hB)))
        have HR4 := Lib.hid (And.intro hgsW hT2W)
        clear hP hgW hLW hB hTl hsl hsl0 hLn hgsW hT2W
        obtain ⟨q, nd⟩ := x
        simp only at HPU hq ⊢
        gi_wp2
        refine ⟨trivial, (callsIn_wide.2 HPU.out).mono ?_⟩
        rintro e w7 ⟨rfl, hm7, hg7⟩
        have hBm : Blk W bm 124 (smapSB_blk HR2.out.1.2).choose := (smapSB_blk HR2.out.1.2).choose_spec
        have hko := keeps_grownF hg7 hBm
        have hgK : KeepIt gb v W w7 := ⟨hg7.size, hg7.block gb hglW (fun e => HNE.out.1 (by simpa using e.symm)), fun g hg => hg7.block g (by
          obtain ⟨A, c, rfl, _, _, h3⟩ := HR2.out.2.2.1
          obtain ⟨g', off, cur, rfl, hbq, _⟩ := h3 hx0
          cases hg
          exact hbq.lt) (fun e => HNE.out.2 hx0 g hg (by simpa using e.symm))⟩
        have HF := Lib.hid (And.intro hko (And.intro hgK (And.intro (HR2.out.1.put hm7 hg7) (HR2.out.2.2.2.grown hg7 (by have := HR2.out.2.2.2.size; omega) (fun k hk => by cases hk; exact HM.out)))))
        have HF2 := Lib.hid (And.intro (HR4.out.1.grown hg7 (fun e => by
          have e' : gs = bm := by simpa using e
          have := HGL.out
          have := HM.out
          omega)) (HR4.out.2.grownSB HR2.out.1.2 hg7))
        clear hm7 hg7 hko hgK hBm q5
        gi_wp2
        refine ⟨HF.out.1, HF.out.2.1, ⟨⟨⟨?_, Nat.lt_of_lt_of_le hglW HF.out.1.size⟩, ?_, ?_⟩, HF2.out⟩, HF.out.2.2.2⟩
        · rw [List.map_append, List.map_cons, List.map_nil, setP_one]; exact HF.out.2.2.1
        · have := HF.out.2.1.box
          have h2 := HR2.out.2.1
          unfold Blk at h2 ⊢
          rw [this, h2]
        · exact HR2.out.2.2.1.kept (fun g cur h _ => HF.out.2.1.row g h)
      case done =>
        rintro D zs W hD hzs ⟨⟨⟨⟨hP, hglW⟩, hgW, hLW⟩, hgsW, hT2W⟩, hB⟩ hK
        have hz : zs = xs := hzs
        subst hz
        rw [← setP_app] at hP
        have hD0 : w.heap.size ≤ D := by omega
        have q1 := hgsW.cell 1
        simp at q1
        have HR := Lib.hid (And.intro hP (And.intro hB (And.intro hT2W hK)))
        clear hP hB hK hgW hLW hglW hgsW hT2W hgb hL hvb hP6 hgs6 hT26 hB6 hgl hz6 hup hzs HNE hD

        gi_wp2
        rw [roundsIn_succ]
        gi_wp2
        generalize W = w4 at *
        refine ⟨trivial, (callsIn_wide.2 (treeAll_any w4 bt2 bmt2 xs2 HR.out.2.2.1)).mono ?_⟩
        rintro e w6 ⟨gb, v, rfl, hgb, hL, hge, hvb, hb6⟩
        have hK6 : w6.heap[D]? = some (Obj.deferred (some [])) := (hb6.block D (Array.getElem?_eq_some_iff.1 HR.out.2.2.2).1).trans HR.out.2.2.2
        have hD6 : D < w6.heap.size := (Array.getElem?_eq_some_iff.1 hK6).1
        have hP6 := HR.out.1.below hb6
        have hB6 := HR.out.2.1.trans (hb6.mono HR.out.2.1.size)
        have hgl := hgb.lt
        obtain ⟨cs0, hcs0⟩ := smapSB_blk hP6.2
        have hbmgb : bm ≠ gb := fun e => by subst e; exact Blk.other hcs0 hgb (by decide) rfl
        have hbmv : 0 < xs2.length → ∀ g, v.ownBlock = some g → bm ≠ g := fun h0 g hg e => by
          subst e
          obtain ⟨A, c, rfl, _, _, h3⟩ := hL
          obtain ⟨g', off, cur, rfl, hb, _⟩ := h3 h0
          cases hg
          exact Blk.other hcs0 hb (by decide) rfl
        have HNE := Lib.hid (And.intro hbmgb hbmv)
        have hup := hP6.2.up
        have hz6 := hB6.size
        clear hbmgb hbmv hcs0 hb6 hge q1
        gi_wp2
        refine wpIn_rangeFunc_tell (Mine := fun _ => False) (fun _ h => h.elim) rfl (by omega) (gf := 150) (lb := #[.pointer (some ⟨gb, 0, none⟩)]) rfl trivial (enters_of Tryz.func150 (by kernel_rfl) rfl)
          (toldSN_tells 8 (by omega) gb v xs2 w6 hgb hL (by omega)) KeepIt.trans (keepIt_b hgl hvb) (Below.refl _ _) (fun _ => rfl)
          (fun pre W => PtI T bm 0 (setP [] (L.map Prod.fst ++ zs.map Prod.fst)) [] gb v xs2 pre W ∧ Below w.heap.size w W ∧ W.heap[D]? = some (Obj.deferred (some [])))
          (fun c pre W => False)
          (OwnM.of_none (OwnFrom.and (Own.from (PtI.own T bm 0 (setP [] (L.map Prod.fst ++ zs.map Prod.fst)) [] gb v xs2) _) (OwnFrom.and (ownFrom_below (Nat.le_refl _) (by omega)) (ownFrom_put hD6))))
          (fun c => OwnM.of_none (fun _ _ _ _ hs _ _ => hs.elim))
          ⟨⟨⟨hP6, hgl⟩, hgb, hL⟩, hB6, hK6⟩
          ?b1 ?assign2 ?body2 ?done2 ?stop2
        case assign2 =>
          rintro l x W K hK
          gi_wp2
          exact hK
        case body2 =>
          rintro l pre x W ⟨⟨⟨hP, hglW⟩, hgW, hLW⟩, hB, hKD⟩ hTl
          have hx0 : 0 < xs2.length := by obtain ⟨r, hr⟩ := hTl; rw [← hr]; simp; omega
          have hpl : pre.length + 1 ≤ 1000 := by obtain ⟨r, hr⟩ := hTl; have := congrArg List.length hr; simp at this; omega
          have hxm : x ∈ xs2 := by obtain ⟨r, hr⟩ := hTl; rw [← hr]; simp
          have hq := HX2.out x hxm
          have q5 := hP.1.cell 0
          simp only [List.getElem?_toArray, List.getElem?_cons_succ, List.getElem?_cons_zero] at q5
          have hsl := setP_len (pre.map Prod.fst) (setP [] (L.map Prod.fst ++ zs.map Prod.fst))
          have hsl0 := setP_len (L.map Prod.fst ++ zs.map Prod.fst) []
          rw [List.length_append, List.length_map, List.length_map] at hsl0
          rw [List.length_map] at hsl
          simp only [List.length_nil, Nat.zero_add] at hsl0
          have hLn := HN.out
          have HPU := Lib.hid (srtPutSB_any W bm _ x.1 true hP.2 (by omega) hq)
          have HR2 := Lib.hid (And.intro hP (And.intro hgW (And.intro hLW hB)))
          have HR4 := Lib.hid hKD
          clear hP hgW hLW hB hTl hsl hsl0 hLn hKD
          obtain ⟨q, nd⟩ := x
          simp only at HPU hq ⊢
          gi_wp2
          refine ⟨trivial, (callsIn_wide.2 HPU.out).mono ?_⟩
          rintro e w7 ⟨rfl, hm7, hg7⟩
          have hBm : Blk W bm 124 (smapSB_blk HR2.out.1.2).choose := (smapSB_blk HR2.out.1.2).choose_spec
          have hko := keeps_grownF hg7 hBm
          have hgK : KeepIt gb v W w7 := ⟨hg7.size, hg7.block gb hglW (fun e => HNE.out.1 (by simpa using e.symm)), fun g hg => hg7.block g (by
            obtain ⟨A, c, rfl, _, _, h3⟩ := HR2.out.2.2.1
            obtain ⟨g', off, cur, rfl, hbq, _⟩ := h3 hx0
            cases hg
            exact hbq.lt) (fun e => HNE.out.2 hx0 g hg (by simpa using e.symm))⟩
          have HF := Lib.hid (And.intro hko (And.intro hgK (And.intro (HR2.out.1.put hm7 hg7) (HR2.out.2.2.2.grown hg7 (by have := HR2.out.2.2.2.size; omega) (fun k hk => by cases hk; exact HM.out)))))
          have HF2 := Lib.hid (show w7.heap[D]? = some (Obj.deferred (some [])) from hko.same D _ HR4.out rfl)
          clear hm7 hg7 hko hgK hBm q5
          gi_wp2
          refine ⟨HF.out.1, HF.out.2.1, ⟨⟨?_, Nat.lt_of_lt_of_le hglW HF.out.1.size⟩, ?_, ?_⟩, HF.out.2.2.2, HF2.out⟩
          · rw [List.map_append, List.map_cons, List.map_nil, setP_one]; exact HF.out.2.2.1
          · have := HF.out.2.1.box
            have h2 := HR2.out.2.1
            unfold Blk at h2 ⊢
            rw [this, h2]
          · exact HR2.out.2.2.1.kept (fun g cur h _ => HF.out.2.1.row g h)
        case done2 =>
          rintro D2 ys W hD2 hzs ⟨⟨⟨hP, hglW⟩, hgW, hLW⟩, hB, hKD⟩ hK
          have hz : ys = xs2 := hzs
          subst hz
          rw [← setP_app] at hP
          have q5 := hP.1.cell 0
          simp only [List.getElem?_toArray, List.getElem?_cons_succ, List.getElem?_cons_zero] at q5
          have hsl := setP_len (L.map Prod.fst ++ zs.map Prod.fst ++ ys.map Prod.fst) []
          rw [List.length_append, List.length_append, List.length_map, List.length_map, List.length_map] at hsl
          simp only [List.length_nil, Nat.zero_add] at hsl
          have hLn := HN.out
          have HKE := Lib.hid (keysSB_any W bm _ hP.2 (by omega))
          have HR3 := Lib.hid (And.intro hP (And.intro hB (And.intro hK hKD)))
          clear hP hB hK hgW hLW hsl hLn hKD
          gi_wp2
          rw [roundsIn_succ]
          gi_wp2
          refine ⟨trivial, (callsIn_wide.2 HKE.out).mono ?_⟩
          rintro e w8 ⟨u, rfl, ho8, hb8⟩
          have hK8 : w8.heap[D2]? = some (Obj.deferred (some [])) := (hb8.block D2 (Array.getElem?_eq_some_iff.1 HR3.out.2.2.1).1).trans HR3.out.2.2.1
          have hK9 : w8.heap[D]? = some (Obj.deferred (some [])) := (hb8.block D (Array.getElem?_eq_some_iff.1 HR3.out.2.2.2).1).trans HR3.out.2.2.2
          have hD' : w.heap.size ≤ D2 := by omega
          have hDD : D ≠ D2 := by omega
          have hpe : (setP [] (L.map Prod.fst ++ zs.map Prod.fst ++ ys.map Prod.fst)).map Prod.fst = pathsS ((l1 ++ l2).map Prod.fst ++ (zs.map Prod.fst ++ ys.map Prod.fst)) :=
            (pathsS_eq (pathsS_rise _) (fun q => by
              rw [pathsS_mem]
              simp only [List.mem_append, List.mem_map, HL.out.1.mem_iff, or_assoc]))
          have hB8 := HR3.out.2.1.trans (hb8.mono HR3.out.2.1.size)
          have HF := Lib.hid (And.intro (own_wide ho8 HR3.out.2.1.size : w8.ownsRow w.heap.size _ _ _ _ _) (And.intro hB8 hpe))
          clear ho8 hb8 hpe hB8 q5
          gi_wp2
          refine ⟨by simp, .inl ⟨_, _, rfl, run_takeDeferred hK8, ?_⟩⟩
          have hK10 : (w8.putObj D2 (.deferred none)).heap[D]? = some (Obj.deferred (some [])) := (World.putObj_heap_other hDD).trans hK9
          refine ⟨by simp, .inl ⟨_, _, rfl, run_takeDeferred hK10, ?_⟩⟩
          refine ⟨_, results_tmp rfl _ _ _, ⟨u, rfl, ?_, ?_⟩⟩
          · have h1 := own_ownF HF.out.1 (grownBy_putObj' w8 D2 (.deferred none)) (fun r e => show ∃ o : Obj, w8.heap[r]? = some o ∧ o.isCells = false from (by cases (e : some D2 = some r); exact ⟨_, hK8, rfl⟩))
            have h2 := own_ownF h1 (grownBy_putObj' (w8.putObj D2 (.deferred none)) D (.deferred none)) (fun r e => show ∃ o : Obj, (w8.putObj D2 (.deferred none)).heap[r]? = some o ∧ o.isCells = false from (by cases (e : some D = some r); exact ⟨_, hK10, rfl⟩))
            rw [← HF.out.2.2, List.length_map, List.map_map]
            exact h2
          · exact (HF.out.2.1.trans (belowK_b (w := w) (Nat.le_refl _) w8 D2 _ (.deferred none) hD' hK8 rfl rfl)).trans (belowK_b (w := w) (Nat.le_refl _) _ D _ (.deferred none) hD0 hK10 rfl rfl)
        case stop2 =>
          rintro D c pre W hD hSp h
          exact h.elim
      case stop =>
        rintro D c pre W hD hSp h
        exact h.elim
end Go.Proofs.YteofiffbobbdmaaGreatDoor
/- slices.Clone of a row of sorted.entry[string,swingle/api.Print]: the same elements, in memory of the call's own. -/
set_option linter.unusedVariables false
set_option linter.unusedSimpArgs false
namespace Go.Proofs.YteofiffbobbdmaaGreatDoor
open Go Go.RowKit
open Sw
theorem infoESP : (Tryz.prog.info? 177).map (fun i => (i.zero, i.size, i.bytes)) = some (some (.agg #[.string ⟨#[]⟩, .int .i64 0, .int .i64 0, .int .u32 0, .int .i64 0, .int .u32 0]), 6, 56) := by kernel_rfl
set_option maxRecDepth 100000 in
set_option maxHeartbeats 2000000 in
theorem slCloneSP_any {α : Type} (E : α → List Value) (hE : ∀ x, (E x).length = 6) (hE1 : ∀ x, ∀ u ∈ E x, u.oneCell' = true) (w : World) (v : Value) (l : List α) (h : SlV w 6 E v l) (hl : l.length ≤ 1000000) :
    Calls Tryz.prog 116 #[v] w fun e w' => ∃ v', e = .returned v' ∧ w'.ownsRow w.heap.size 177 6 v' l.length (l.flatMap E) ∧ Below w.heap.size w w' := by
  obtain ⟨A, c, rfl, hc1, hc2, hsl⟩ := h
  cases A with
  | none =>
    have h0 : l = [] := by
      cases l with
      | nil => rfl
      | cons a l => obtain ⟨b, off, h, _⟩ := hsl (by simp); cases h
    subst h0
    have hno := World.ownsRow_nil w w.heap.size 177 6
    have HN := Lib.hid hno; clear hno hsl
    have hnl : ∀ W n c, (binOp .eql 143 (.slice none n c) (.slice none 0 0)).run Tryz.prog W = .ok (.bool true) W := fun W n c => Lib.run_eql_slice_nil W 143 177 none n c 0 0 Tryz.underlying143
    go_enter Tryz.func116, Tryz.ntmps116
    go_wp2_with fail
    go_ret
    exact ⟨_, rfl, HN.out, Below.refl _ _⟩
  | some a =>
    obtain ⟨i0, hi, hz0, hz1, hz2⟩ := info_parts infoESP
    have hlen : (l.flatMap E).length = l.length * 6 := flat_len hE l
    have hone : ∀ u ∈ l.flatMap E, u.oneCell' = true := fun u hu => by
      rw [List.mem_flatMap] at hu
      obtain ⟨x, _, hx⟩ := hu
      exact hE1 x u hx
    have hnews : ∀ j u, (l.flatMap E)[j]? = some u → w.cell? (a.add j) = some u := fun j u hj => by
      have hjl := (List.getElem?_eq_some_iff.1 hj).1
      rw [hlen] at hjl
      obtain ⟨b, off, hA, _, hcs⟩ := hsl (by omega)
      rw [Option.some.inj hA, add_mk]
      have hq : j / 6 < l.length := by omega
      have hr : j % 6 < 6 := Nat.mod_lt _ (by omega)
      have hd : j / 6 * 6 + j % 6 = j := by omega
      have h1 := flat_get hE l (j / 6) hq (j % 6) hr
      rw [hd, hj] at h1
      have h2 := hcs (j / 6) hq (j % 6) hr
      rw [Nat.add_assoc, hd] at h2
      rw [h2, ← h1]
    have hnews1 : ∀ (o : Obj) j u, (l.flatMap E)[j]? = some u → (w.alloc o).cell? (a.add j) = some u := fun o j u hj => by
      have h1 := hnews j u hj
      have hlt := World.block_lt_of_cell? w _ h1
      rw [← h1]
      exact ((Below.refl w.heap.size w).alloc (Nat.le_refl _) o).cell hlt
    have hown := World.ownsRow_made (e := 177) (size := 6) (base := w.heap.size) w #[] 0 (Nat.le_refl _) (by decide) (by simp)
    have hbe : Below w.heap.size w (w.alloc (.cells #[] 177)) := (Below.refl _ _).alloc (Nat.le_refl _) _
    have HH := Lib.hid (And.intro hown hbe); clear hown hbe
    have HL := Lib.hid hlen; clear hlen
    have HO := Lib.hid hone; clear hone
    have HW := Lib.hid hnews1; clear hnews1 hnews
    have HI := Lib.hid (And.intro hi (And.intro hz0 (And.intro hz1 hz2))); clear hi hz0 hz1 hz2
    generalize l.flatMap E = xs at *
    generalize l.length = n at *
    have hnl : ∀ W n c, (binOp .eql 143 (.slice (some a) n c) (.slice none 0 0)).run Tryz.prog W = .ok (.bool false) W := fun W n c => Lib.run_eql_slice_nil W 143 177 (some a) n c 0 0 Tryz.underlying143
    go_enter Tryz.func116, Tryz.ntmps116
    go_wp2_with (at_builtin; refine wpList_append_own _ rfl _ _ 143 rfl w.heap.size 177 i0 (.agg #[.string ⟨#[]⟩, .int .i64 0, .int .i64 0, .int .u32 0, .int .i64 0, .int .u32 0]) 6 56 Tryz.underlying143 HI.out.1 HI.out.2.1 HI.out.2.2.1 HI.out.2.2.2 rfl (by decide) _ _ _ rfl HH.out.1 a n c xs rfl HL.out (HW.out _) HO.out (by unfold maxLen; omega) (by omega) (by simp) ?_; intro v' w1 hown1 hgrow1 hnil1)
    have HP := Lib.hid (And.intro hown1 hgrow1); clear hown1 hgrow1 hnil1
    go_wp2_with fail
    go_ret
    refine ⟨_, rfl, ?_, HH.out.2.grown HP.out.2 (by simp) (fun k hk => ?_)⟩
    · have := HP.out.1
      simpa using this
    · have : w.heap.size = k := Option.some.inj hk
      omega
end Go.Proofs.YteofiffbobbdmaaGreatDoor
/- slices.BinarySearchFunc over a row of sorted.entry[string,swingle/api.Print], as sorted.Map's find calls it. -/
set_option linter.unusedVariables false
set_option linter.unusedSimpArgs false
namespace Go.Proofs.YteofiffbobbdmaaGreatDoor
open Go Go.RowKit
open Sw
def SrchPostSP {α : Type} (f : α → Int) (l : List α) (w : World) (e : Ending) (w' : World) : Prop :=
  ∃ i : Nat, i ≤ l.length ∧ (∀ m (h : m < l.length), m < i → f l[m] < 0) ∧ (∀ m (h : m < l.length), i ≤ m → 0 ≤ f l[m]) ∧
    e = .returned (.tuple #[.int .i64 i, .bool (if h : i < l.length then decide (f l[i] = 0) else false)]) ∧ Below w.heap.size w w'
set_option maxRecDepth 100000 in
set_option maxHeartbeats 4000000 in
theorem slSearchSP_any {α : Type} (E : α → List Value) (hE : ∀ x, (E x).length = 6) (f : α → Int) (w : World) (A : Option Addr) (n c g : Nat) (l : List α) (kv : Value) (hl : l.length = n) (hn : n ≤ 1000000) (hsl : SlOf w 6 E A l)
    (hmono : ∀ a b (ha : a < l.length) (hb : b < l.length), a ≤ b → f l[b] < 0 → f l[a] < 0)
    (hcall : ∀ W x, x ∈ l → Below w.heap.size w W → Calls Tryz.prog 153 #[.agg (E x).toArray, kv, .pointer (some ⟨g, 0, none⟩)] W fun e w' => e = .returned (.int .i64 (f x)) ∧ Below W.heap.size W w') :
    Calls Tryz.prog 152 #[.slice A n c, kv, .func (.func 153) #[] #[.pointer (some ⟨g, 0, none⟩)]] w (SrchPostSP f l w) := by
  have HS := Lib.hid hsl; clear hsl
  have HL := Lib.hid hl; clear hl
  have HM := Lib.hid hmono; clear hmono
  have HC := Lib.hid hcall; clear hcall
  have HE := Lib.hid hE; clear hE
  go_enter Tryz.func152, Tryz.ntmps152
  go_wp2_with fail
  go_loopw [9, 10] (fun iv jv wr => ∃ i j : Nat, i ≤ j ∧ j ≤ n ∧ iv = .int .i64 i ∧ jv = .int .i64 j ∧ (∀ m (h : m < l.length), m < i → f l[m] < 0) ∧ (∀ m (h : m < l.length), j ≤ m → 0 ≤ f l[m]) ∧ Below w.heap.size w wr) (fun iv jv _ => (intOf jv - intOf iv).toNat)
  case atStart => exact ⟨0, n, Nat.zero_le _, Nat.le_refl _, rfl, rfl, fun m h h' => by omega, fun m h h' => by have := HL.out; omega, Below.refl _ _⟩
  case round =>
    obtain ⟨i, j, hij, hjn, rfl, rfl, hlo, hhi, hbr⟩ := hrel
    have HLO := Lib.hid hlo; clear hlo
    have HHI := Lib.hid hhi; clear hhi
    by_cases hlt : i < j
    · have hjL : j ≤ l.length := by have := HL.out; omega
      obtain ⟨h, hh⟩ : ∃ h : Nat, ((i : Int) + j) / 2 = h := ⟨(i + j) / 2, by omega⟩
      have hih : i ≤ h := by omega
      have hhj : h < j := by omega
      have hhL : h < l.length := by omega
      obtain ⟨b, off, rfl, hbb, _⟩ := (HS.out.below hbr (Nat.le_refl _)) (by omega)
      have HR := Lib.hid ((HS.out.below hbr (Nat.le_refl _)).range HE.out h hhL)
      have HF := Lib.hid (HC.out wr l[h] (List.getElem_mem hhL) hbr)
      have HX := Lib.hid (HE.out l[h])
      have HLO2 := Lib.hid (fun (hf : f l[h] < 0) m (hm : m < l.length) (hmh : m < h + 1) => (HM.out m h hm hhL (by omega) hf : f l[m] < 0))
      have HHI2 := Lib.hid (fun (hf : ¬ f l[h] < 0) m (hm : m < l.length) (hmh : h ≤ m) => (by
        refine Int.not_lt.1 fun hx => hf ?_
        exact HM.out h m hhL hm hmh hx : 0 ≤ f l[m]))
      generalize f l[h] = fv at *
      generalize E l[h] = ev at *
      have q1 : (i : Int) + j ≤ 2000000 := by omega
      have q2 : (h : Int) < n := by omega
      go_wp2_with (refine wpList_load_mid rfl 177 (.tmp 27) rfl b (off + h * 6) rfl ev _ HR.out Tryz.underlying177 rfl (by rw [HX.out]; kernel_rfl) ?_)
      refine HF.out.mono ?_
      rintro e w2 ⟨rfl, hb2⟩
      have hb3 := hbr.trans (hb2.mono hbr.size)
      clear HR HF
      by_cases hf : fv < 0
      · have H1 := Lib.hid (HLO2.out hf)
        go_wp2_with fail
        go_roundw
        case rel => exact ⟨h + 1, j, by omega, hjn, by go_num, rfl, H1.out, HHI.out, hb3⟩
        case measure => simp [intOf]; omega
      · have H1 := Lib.hid (HHI2.out (by omega))
        go_wp2_with fail
        go_roundw
        case rel => exact ⟨i, h, hih, by omega, rfl, by go_num, HLO.out, H1.out, hb3⟩
        case measure => simp [intOf]; omega
    · obtain rfl : i = j := by omega
      clear hij hlt
      by_cases hin : i < n
      · have hiL : i < l.length := by have := HL.out; omega
        obtain ⟨b, off, rfl, hbb, _⟩ := (HS.out.below hbr (Nat.le_refl _)) (by omega)
        have HR := Lib.hid ((HS.out.below hbr (Nat.le_refl _)).range HE.out i hiL)
        have HF := Lib.hid (HC.out wr l[i] (List.getElem_mem hiL) hbr)
        have HX := Lib.hid (HE.out l[i])
        have HP := Lib.hid (fun w' (hb : Below w.heap.size w w') => (⟨i, by omega, HLO.out, HHI.out, by rw [dif_pos hiL], hb⟩ : SrchPostSP f l w (.returned (.tuple #[.int .i64 i, .bool (decide (f l[i] = 0))])) w'))
        generalize f l[i] = fv at *
        generalize E l[i] = ev at *
        have q2 : (i : Int) < n := by omega
        go_wp2_with (refine wpList_load_row_g rfl 177 (.tmp 43) rfl b (off + i * 6) rfl ev _ HR.out Tryz.underlying177 rfl (by rw [HX.out]; kernel_rfl) ?_)
        refine HF.out.mono ?_
        rintro e w2 ⟨rfl, hb2⟩
        have hb3 := hbr.trans (hb2.mono hbr.size)
        have HQ := Lib.hid (HP.out w2 hb3)
        have hbq : (fv == 0) = decide (fv = 0) := rfl
        go_wp2_with fail
        go_ret2
        exact HQ.out
      · obtain rfl : i = n := by omega
        have HP := Lib.hid (fun w' (hb : Below w.heap.size w w') => (⟨i, by have := HL.out; omega, HLO.out, HHI.out, by rw [dif_neg (by have := HL.out; omega)], hb⟩ : SrchPostSP f l w (.returned (.tuple #[.int .i64 i, .bool false])) w'))
        go_wp2_with fail
        go_ret2
        exact HP.out _ hbr
end Go.Proofs.YteofiffbobbdmaaGreatDoor
/- sorted.Map[string,swingle/api.Print]: what a map holds; find. -/
set_option linter.unusedVariables false
set_option linter.unusedSimpArgs false
namespace Go.Proofs.YteofiffbobbdmaaGreatDoor
open Go Go.RowKit
open Sw
/-- an entry's cells -/
def eCSP (e : ByteArray × Pr) : List Value := [.string e.1, .int .i64 e.2.kind, .int .i64 e.2.mode, .int .u32 e.2.time, .int .i64 e.2.size, .int .u32 e.2.sum]
theorem eCSP_len (e : ByteArray × Pr) : (eCSP e).length = 6 := rfl
theorem eCSP_one (e : ByteArray × Pr) : ∀ u ∈ eCSP e, u.oneCell' = true := by
  intro u hu
  simp only [eCSP, List.mem_cons, List.mem_append, List.not_mem_nil, or_false] at hu
  rcases hu with rfl | rfl | rfl | rfl | rfl | rfl <;> rfl
abbrev ordFSP : Value := .func (.func 41) #[] #[]
/-- the map in block bm holds the entries xs -/
structure SMapSP (w : World) (bm : Nat) (xs : List (ByteArray × Pr)) : Prop where
  row : ∃ v, Blk w bm 145 #[ordFSP, v] ∧ w.ownsRow 0 177 6 v xs.length (xs.flatMap eCSP)
  up : Up ordS xs
  ok : ∀ e ∈ xs, okS e.1
set_option maxRecDepth 100000 in
set_option maxHeartbeats 2000000 in
theorem find1SP_any (w : World) (g bm : Nat) (e : ByteArray × Pr) (k : ByteArray) (he : okS e.1) (hk : okS k) (hg : w.cell? ⟨g, 0, none⟩ = some (.pointer (some ⟨bm, 0, none⟩))) (hm : w.cell? ⟨bm, 0, none⟩ = some ordFSP) :
    Calls Tryz.prog 153 #[.agg (eCSP e).toArray, Value.string k, .pointer (some ⟨g, 0, none⟩)] w fun r w' => r = .returned (.int .i64 (ordS e.1 k)) ∧ Below w.heap.size w w' := by
  have HO := Lib.hid (fun W => orderS_any W e.1 k he hk)
  have hB := Blk.new w 177 (eCSP e).toArray
  have hb1 := (Below.refl w.heap.size w).alloc (Nat.le_refl _) (.cells (eCSP e).toArray 177)
  have hgl := World.block_lt_of_cell? w _ hg
  have hml := World.block_lt_of_cell? w _ hm
  have hg1 := (hb1.cell (p := ⟨g, 0, none⟩) hgl).trans hg
  have hm1 := (hb1.cell (p := ⟨bm, 0, none⟩) hml).trans hm
  have hlt := hB.lt
  have hk0 : (w.alloc (.cells (eCSP e).toArray 177)).cell? ⟨w.heap.size, 0, none⟩ = some (Value.string e.1) := hB.cell 0
  clear hg hm hB
  generalize ordS e.1 k = r at *
  have l1 : ∀ m : Held (Aft (w.alloc (.cells (eCSP e).toArray 177))), (HeldW m).cell? ⟨g, 0, none⟩ = some (.pointer (some ⟨bm, 0, none⟩)) := fun m => (Aft.cell m (p := ⟨g, 0, none⟩) (Nat.lt_of_lt_of_le hgl hb1.size)).trans hg1
  have l2 : ∀ m : Held (Aft (w.alloc (.cells (eCSP e).toArray 177))), (HeldW m).cell? ⟨bm, 0, none⟩ = some ordFSP := fun m => (Aft.cell m (p := ⟨bm, 0, none⟩) (Nat.lt_of_lt_of_le hml hb1.size)).trans hm1
  have l3 : ∀ m : Held (Aft (w.alloc (.cells (eCSP e).toArray 177))), (HeldW m).cell? ⟨w.heap.size, 0, none⟩ = some (Value.string e.1) := fun m => (Aft.cell m (p := ⟨w.heap.size, 0, none⟩) hlt).trans hk0
  have HB1 := Lib.hid hb1; clear hb1 hg1 hm1 hk0
  haveI := Aft.some (w.alloc (.cells (eCSP e).toArray 177))
  generalize (eCSP e).toArray = ec at *
  go_enter Tryz.func153, Tryz.ntmps153
  go_wp2_with fail
  refine wp_region_class (Aft (w.alloc (.cells ec 177))) (by kernel_rfl) (by kernel_rfl) (Aft.start _) ?_
  repeat (go_big_quiet_step (with_reducible exact held_below Aft.keep (HO.out _)))
  refine wpQuiet_nil ?_
  rintro _ ⟨nn, rfl⟩
  have HW : Hid (Below (w.alloc (.cells ec 177)).heap.size (w.alloc (.cells ec 177)) (HeldW nn)) := Lib.hid (HeldW_spec nn)
  go_wp2_with fail
  go_ret
  exact ⟨rfl, HB1.out.trans (HW.out.mono HB1.out.size)⟩
end Go.Proofs.YteofiffbobbdmaaGreatDoor
