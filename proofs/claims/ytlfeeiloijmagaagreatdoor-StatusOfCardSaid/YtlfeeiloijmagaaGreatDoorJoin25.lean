/- Several texts, joined for the limit of sixty files; each one opens with its own comment. -/
import Derived.Test.YtlfeeiloijmagaaGreatDoorJoin24
import Derived.Test.YtlfeeiloijmagaaGreatDoorJoin21
import Derived.Test.YtlfeeiloijmagaaGreatDoorJoin22
/- detect.Paths, at two trees. -/
set_option linter.unusedVariables false
set_option linter.unusedSimpArgs false
namespace Go.Proofs.YtlfeeiloijmagaaGreatDoor
open Go Go.RowKit Go.Shelf
open Sw
attribute [local go_sem] Oper.semAt_some
theorem TreeAt.ownF {W W' : World} {row : Option Nat} {bt bm : Nat} {X : List NE} (h : TreeAt W bt bm X) (hg : W.grownBy W' row) (hr : ∀ r, row = some r → ∃ o : Obj, W.heap[r]? = some o ∧ o.isCells = false) : TreeAt W' bt bm X := by
  refine ⟨blk_ownF h.box hg hr, ?_⟩
  obtain ⟨v, hb, ho⟩ := h.map.row
  exact ⟨⟨v, blk_ownF hb hg hr, own_ownF ho hg hr⟩, h.map.up, h.map.ok⟩
/-- words of a tree put into the set, the row of trees and another tree in their places -/
def Pt2I (T bm : Nat) (X0 : List SbE) (gs : Nat) (ts : TypeId) (p1 p2 : Value) (bt2 bmt2 : Nat) (xs2 : List NE) (gb : Nat) (v : Value) (xs : List NE) (pre : List NE) (W : World) : Prop :=
  PtI T bm 0 X0 [] gb v xs pre W ∧ Blk W gs ts #[p1, p2] ∧ TreeAt W bt2 bmt2 xs2
theorem Pt2I.own (T bm : Nat) (X0 : List SbE) (gs : Nat) (ts : TypeId) (p1 p2 : Value) (bt2 bmt2 : Nat) (xs2 : List NE) (gb : Nat) (v : Value) (xs : List NE) : Own (Pt2I T bm X0 gs ts p1 p2 bt2 bmt2 xs2 gb v xs) := fun s A C row hs hg hr => ⟨PtI.own T bm 0 X0 [] gb v xs s A C row hs.1 hg hr, blk_ownF hs.2.1 hg hr, hs.2.2.ownF hg hr⟩
set_option maxRecDepth 100000 in
set_option maxHeartbeats 8000000 in
theorem paths2_any (w : World) (u1 u2 : Value) (l1 l2 : List MkE) (gs : Nat) (ts : TypeId) (bt bmt bt2 bmt2 : Nat) (xs xs2 : List NE) (h1 : SlV w 6 eCM u1 l1) (h2 : SlV w 6 eCM u2 l2) (hl1 : l1.length ≤ 1000) (hl2 : l2.length ≤ 1000) (hp1 : ∀ m ∈ l1, m.1.size ≤ 90000) (hp2 : ∀ m ∈ l2, m.1.size ≤ 90000)
    (hgs : Blk w gs ts #[.pointer (some ⟨bt, 0, none⟩), .pointer (some ⟨bt2, 0, none⟩)]) (hT : TreeAt w bt bmt xs) (hT2 : TreeAt w bt2 bmt2 xs2) (hxl : xs.length ≤ 1000) (hxp : ∀ e ∈ xs, e.1.size ≤ 90000) (hxl2 : xs2.length ≤ 1000) (hxp2 : ∀ e ∈ xs2, e.1.size ≤ 90000) :
    Calls Tryz.prog 44 #[.agg #[u1, u2], .slice (some ⟨gs, 0, none⟩) 2 2] w fun e w' => ∃ u, e = .returned u ∧ w'.ownsRow w.heap.size 9 1 u (pathsS ((l1 ++ l2).map Prod.fst ++ (xs.map Prod.fst ++ xs2.map Prod.fst))).length ((pathsS ((l1 ++ l2).map Prod.fst ++ (xs.map Prod.fst ++ xs2.map Prod.fst))).map Value.string) ∧ Below w.heap.size w w' := by
  refine callsIn_wide.1 (?_ : CallsIn Fence.wide 9 _ _ _ _ _)
  refine callsIn_of_wp_marks Tryz.func44 rfl trivial ?_ rfl
  simp only [Tryz.ntmps44, List.size_toArray, List.length_cons, List.length_nil, Nat.reduceAdd, Nat.reduceSub, Array.replicate_succ, Array.replicate_zero, List.push_toArray, List.append_toArray, List.nil_append, List.cons_append]
  have hb0 : Below w.heap.size w (w.alloc (.cells #[u1, u2] 24)) := (Below.refl _ w).alloc (Nat.le_refl _) _
  have hB0 := Blk.new w 24 #[u1, u2]
  obtain ⟨W0, hW0⟩ : ∃ W0, w.alloc (.cells #[u1, u2] 24) = W0 := ⟨_, rfl⟩
  rw [hW0] at hb0 hB0
  have HN := Lib.hid (srtNewSB_any W0)
  have H0 := Lib.hid (And.intro hb0 (And.intro hB0 (And.intro (h1.below hb0 (Nat.le_refl _)) (And.intro (h2.below hb0 (Nat.le_refl _)) (And.intro (hT.below hb0) (And.intro (hgs.below hb0 hgs.lt) (hT2.below hb0)))))))
  have HW := Lib.hid hW0
  have HX := Lib.hid (And.intro hp1 (And.intro hp2 hxp))
  have HX2 := Lib.hid hxp2
  have HGL := Lib.hid hgs.lt
  clear h1 h2 hb0 hB0 hT hgs hW0 hp1 hp2 hxp hT2 hxp2
  gi_wp2
  rw [HW.out]
  refine ⟨trivial, (callsIn_wide.2 HN.out).mono ?_⟩
  rintro e w1 ⟨bm, rfl, hm, hbm, hb1⟩
  have hba : Below w1.heap.size w1 (w1.alloc (.cells #[.pointer (some ⟨bm, 0, none⟩)] 119)) := (Below.refl _ w1).alloc (Nat.le_refl _) _
  have hb2 := hb1.trans (hba.mono hb1.size)
  have H1 := Lib.hid (And.intro (show PthI w1.heap.size bm [] _ from ⟨Blk.new w1 _ _, hm.below hba⟩) (And.intro (H0.out.1.trans (hb2.mono H0.out.1.size)) (And.intro (H0.out.2.1.below hb2 H0.out.2.1.lt) (And.intro (H0.out.2.2.1.below hb2 (Nat.le_refl _)) (And.intro (H0.out.2.2.2.1.below hb2 (Nat.le_refl _)) (And.intro (H0.out.2.2.2.2.1.below hb2) (And.intro (H0.out.2.2.2.2.2.1.below hb2 H0.out.2.2.2.2.2.1.lt) (H0.out.2.2.2.2.2.2.below hb2))))))))
  have HM := Lib.hid (show w.heap.size ≤ bm from Nat.le_trans H0.out.1.size hbm)
  have q2a := H1.out.2.2.1.cell 0
  have q2b := H1.out.2.2.1.cell 1
  simp only [List.getElem?_toArray, List.getElem?_cons_succ, List.getElem?_cons_zero] at q2a q2b
  obtain ⟨W1, hW1⟩ : ∃ W1, w1.alloc (.cells #[.pointer (some ⟨bm, 0, none⟩)] 119) = W1 := ⟨_, rfl⟩
  obtain ⟨T, hTe⟩ : ∃ T, w1.heap.size = T := ⟨_, rfl⟩
  rw [hW1, hTe] at H1
  have HW1 := Lib.hid (And.intro hW1 hTe)
  have HBO := Lib.hid (both_any W1 u1 u2 l1 l2 H1.out.2.2.2.1 H1.out.2.2.2.2.1 (by omega) (by omega) HX.out.1 HX.out.2.1)
  clear hba hb2 hb1 hbm hm hW1 hTe HN H0
  gi_wp2
  rw [HW1.out.1, HW1.out.2]
  clear q2a q2b HW1
  refine ⟨trivial, (callsIn_wide.2 HBO.out).mono ?_⟩
  rintro e w2 ⟨u, L, rfl, hPm, ho, hb2⟩
  obtain ⟨A3, k3, rfl, hk3, -, -⟩ := SlV_of_any ho
  have hLl : L.length = l1.length + l2.length := by rw [hPm.length_eq, List.length_append]
  have hLp : ∀ m ∈ L, m.1.size ≤ 90000 := fun m hm => (List.mem_append.1 (hPm.mem_iff.1 hm)).elim (HX.out.1 m) (HX.out.2.1 m)
  have H2 := Lib.hid (And.intro (H1.out.1.below hb2) (And.intro (H1.out.2.1.trans (hb2.mono H1.out.2.1.size)) (And.intro ho (And.intro (H1.out.2.2.2.2.2.1.below hb2) (And.intro (H1.out.2.2.2.2.2.2.1.below hb2 H1.out.2.2.2.2.2.2.1.lt) (H1.out.2.2.2.2.2.2.2.below hb2))))))
  have HL := Lib.hid (And.intro hPm hLp)
  obtain ⟨n, hn⟩ : ∃ n, L.length = n := ⟨_, rfl⟩
  rw [hn] at H2 hLl hk3
  rw [hn]
  have HN := Lib.hid hn
  clear hPm hLp ho hb2 hn HBO H1
  gi_wp2
  gi_loopw [15] (fun iv wr => ∃ i : Nat, iv = .int .i64 i ∧ i ≤ n ∧ PthI T bm (setP [] ((L.take i).map Prod.fst)) wr ∧ Below w.heap.size w wr ∧ wr.ownsRow W1.heap.size 74 6 (.slice A3 n k3) n (L.flatMap eCM) ∧ TreeAt wr bt bmt xs ∧ Blk wr gs ts #[.pointer (some ⟨bt, 0, none⟩), .pointer (some ⟨bt2, 0, none⟩)] ∧ TreeAt wr bt2 bmt2 xs2) (fun iv _ => n - (intOf iv).toNat)
  case atStart => exact ⟨0, rfl, Nat.zero_le _, H2.out.1, H2.out.2.1, H2.out.2.2.1, H2.out.2.2.2.1, H2.out.2.2.2.2.1, H2.out.2.2.2.2.2⟩
  case round =>
    obtain ⟨i, rfl, hi, hP, hb, ho, hT, hgs, hT2⟩ := hrel
    by_cases hlt : i < n
    · have hiL : i < L.length := by have := HN.out; omega
      have hsl := SlV.of_own (l := L) ho eCM_len (by decide)
      obtain ⟨A', c', hA, _, _, hso⟩ := hsl
      obtain ⟨rfl, rfl⟩ : A3 = A' ∧ k3 = c' := by injection hA with e1 e2 e3; exact ⟨e1, e3⟩
      clear hA
      obtain ⟨b, off, rfl, hbb, hcs⟩ := hso (by omega)
      have c0 := hcs i hiL 0 (by omega)
      have c1 := hcs i hiL 1 (by omega)
      have c2 := hcs i hiL 2 (by omega)
      have c3' := hcs i hiL 3 (by omega)
      have c4 := hcs i hiL 4 (by omega)
      have c5 := hcs i hiL 5 (by omega)
      simp only [eCM, List.getElem?_cons_succ, List.getElem?_cons_zero, Nat.add_zero] at c0 c1 c2 c3' c4 c5
      clear hcs hso
      have hi1 : (i : Int) < n := by omega
      have hq := HL.out.2 _ (List.getElem_mem hiL)
      have hst : setP [] ((L.take (i + 1)).map Prod.fst) = putN ordS L[i].1 true (setP [] ((L.take i).map Prod.fst)) := by
        rw [List.take_succ_eq_append_getElem hiL, List.map_append, List.map_cons, List.map_nil, setP_one]
      have hsl := setP_len ((L.take i).map Prod.fst) []
      rw [List.length_map, List.length_take] at hsl
      simp only [List.length_nil, Nat.zero_add] at hsl
      obtain ⟨⟨q, ⟨kd, md, tm, sz, sm⟩⟩, hx⟩ : ∃ x, L[i] = x := ⟨_, rfl⟩
      simp only [hx] at c0 c1 c2 c3' c4 c5 hq hst
      clear hx
      have hba := (Below.refl wr.heap.size wr).alloc (Nat.le_refl _) (.cells #[.string q, .int .i64 kd, .int .i64 md, .int .u32 tm, .int .i64 sz, .int .u32 sm] 74)
      have HPI := Lib.hid (hP.below hba)
      have q5 := HPI.out.1.cell 0
      simp only [List.getElem?_toArray, List.getElem?_cons_succ, List.getElem?_cons_zero] at q5
      have HPU := Lib.hid (srtPutSB_any _ bm _ q true HPI.out.2 (by omega) hq)
      have HR := Lib.hid (And.intro (hb.trans (hba.mono hb.size)) (And.intro (own_kept ho hba) (And.intro (hT.below hba) (And.intro (hgs.below hba hgs.lt) (And.intro hst (hT2.below hba))))))
      clear hP hb ho hT hgs hba hst hsl hT2
      gi_wp2
      refine ⟨trivial, (callsIn_wide.2 HPU.out).mono ?_⟩
      rintro e w5 ⟨rfl, hm5, hg5⟩
      have H5 := Lib.hid (And.intro (HPI.out.put hm5 hg5) (And.intro (HR.out.1.grown hg5 HR.out.1.size (fun k hk => by cases hk; exact HM.out)) (And.intro (show w5.ownsRow W1.heap.size 74 6 _ n (L.flatMap eCM) from by
        obtain ⟨cs, hB⟩ := smapSB_blk HPI.out.2
        exact own_grown_typSB HR.out.2.1 hg5 hB (by decide)) (And.intro (HR.out.2.2.1.grownSB HPI.out.2 hg5) (And.intro (HR.out.2.2.2.1.grown hg5 (fun e => by
          have e' : gs = bm := by simpa using e
          have := HGL.out
          have := HM.out
          omega)) (HR.out.2.2.2.2.2.grownSB HPI.out.2 hg5)))))) 
      clear hm5 hg5 q5 HPU
      gi_wp2
      go_roundw
      case rel => exact ⟨i + 1, by go_num, by omega, by rw [HR.out.2.2.2.2.1]; exact H5.out.1, H5.out.2.1, H5.out.2.2.1, H5.out.2.2.2.1, H5.out.2.2.2.2.1, H5.out.2.2.2.2.2⟩
      case measure => simp [intOf]; omega
    · obtain rfl : i = n := by omega
      have hf : L.take i = L := List.take_of_length_le (by have := HN.out; omega)
      rw [hf] at hP
      clear hf ho
      have HR := Lib.hid (And.intro hP (And.intro hb (And.intro hT (And.intro hgs hT2))))
      have q1 := hgs.cell 0
      simp at q1
      clear hP hb hT hgs hT2 H2
      gi_wp2
      refine wpIn_loop_rounds 3 ?_
      rw [roundsIn_succ]
      gi_wp2
      generalize wr = w4 at *
      refine ⟨trivial, (callsIn_wide.2 (treeAll_any w4 bt bmt xs HR.out.2.2.1)).mono ?_⟩
      rintro e w6 ⟨gb, v, rfl, hgb, hL, hge, hvb, hb6⟩
      have hP6 := HR.out.1.below hb6
      have hB6 := HR.out.2.1.trans (hb6.mono HR.out.2.1.size)
      have hgl := hgb.lt
      obtain ⟨cs0, hcs0⟩ := smapSB_blk hP6.2
      have hbmgb : bm ≠ gb := fun e => by subst e; exact Blk.other hcs0 hgb (by decide) rfl
      have hbmv : 0 < xs.length → ∀ g, v.ownBlock = some g → bm ≠ g := fun h0 g hg e => by
        subst e
        obtain ⟨A, c, rfl, _, _, h3⟩ := hL
        obtain ⟨g', off, cur, rfl, hb, _⟩ := h3 h0
        cases hg
        exact Blk.other hcs0 hb (by decide) rfl
      have HNE := Lib.hid (And.intro hbmgb hbmv)
      have hup := hP6.2.up
      have hz6 := hB6.size
      have hgs6 := HR.out.2.2.2.1.below hb6 HR.out.2.2.2.1.lt
      have hT26 := HR.out.2.2.2.2.below hb6
      clear hbmgb hbmv hcs0 hb6 hge q1
      gi_wp2
      refine wpIn_rangeFunc_tell (Mine := fun _ => False) (fun _ h => h.elim) rfl (by omega) (gf := 149) (lb := #[.pointer (some ⟨gb, 0, none⟩)]) rfl trivial (enters_of Tryz.func149 (by kernel_rfl) rfl)
        (toldSN_tells 8 (by omega) gb v xs w6 hgb hL (by omega)) KeepIt.trans (keepIt_b hgl hvb) (Below.refl _ _) (fun _ => rfl)
        (fun pre W => Pt2I T bm (setP [] (L.map Prod.fst)) gs ts (.pointer (some ⟨bt, 0, none⟩)) (.pointer (some ⟨bt2, 0, none⟩)) bt2 bmt2 xs2 gb v xs pre W ∧ Below w.heap.size w W)
        (fun c pre W => False)
        (OwnM.of_none (OwnFrom.and (Own.from (Pt2I.own T bm (setP [] (L.map Prod.fst)) gs ts (.pointer (some ⟨bt, 0, none⟩)) (.pointer (some ⟨bt2, 0, none⟩)) bt2 bmt2 xs2 gb v xs) _) (ownFrom_below (Nat.le_refl _) (by omega))))
        (fun c => OwnM.of_none (fun _ _ _ _ hs _ _ => hs.elim))
        ⟨⟨⟨⟨hP6, hgl⟩, hgb, hL⟩, hgs6, hT26⟩, hB6⟩
        ?a1 ?assign ?body ?done ?stop
      case assign =>
        rintro l x W K hK
        gi_wp2
        exact hK
      case body =>
        rintro l pre x W ⟨⟨⟨⟨hP, hglW⟩, hgW, hLW⟩, hgsW, hT2W⟩, hB⟩ hTl
        have hx0 : 0 < xs.length := by obtain ⟨r, hr⟩ := hTl; rw [← hr]; simp; omega
        have hpl : pre.length + 1 ≤ 1000 := by obtain ⟨r, hr⟩ := hTl; have := congrArg List.length hr; simp at this; omega
        have hxm : x ∈ xs := by obtain ⟨r, hr⟩ := hTl; rw [← hr]; simp
        have hq := HX.out.2.2 x hxm
        have q5 := hP.1.cell 0
        simp only [List.getElem?_toArray, List.getElem?_cons_succ, List.getElem?_cons_zero] at q5
        have hsl := setP_len (pre.map Prod.fst) (setP [] (L.map Prod.fst))
        have hsl0 := setP_len (L.map Prod.fst) []
        rw [List.length_map] at hsl hsl0
        simp only [List.length_nil, Nat.zero_add] at hsl0
        have hLn := HN.out
        have HPU := Lib.hid (srtPutSB_any W bm _ x.1 true hP.2 (by omega) hq)
        have HR2 := Lib.hid (And.intro hP (And.intro hgW (And.intro hLW hB)))
        have HR4 := Lib.hid (And.intro hgsW hT2W)
        clear hP hgW hLW hB hTl hsl hsl0 hLn hgsW hT2W
        obtain ⟨q, nd⟩ := x
        simp only at HPU hq ⊢
        gi_wp2
        refine ⟨trivial, (callsIn_wide.2 HPU.out).mono ?_⟩
        rintro e w7 ⟨rfl, hm7, hg7⟩
        have hBm : Blk W bm 153 (smapSB_blk HR2.out.1.2).choose := (smapSB_blk HR2.out.1.2).choose_spec
        have hko := keeps_grownF hg7 hBm
        have hgK : KeepIt gb v W w7 := ⟨hg7.size, hg7.block gb hglW (fun e => HNE.out.1 (by simpa using e.symm)), fun g hg => hg7.block g (by
          obtain ⟨A, c, rfl, _, _, h3⟩ := HR2.out.2.2.1
          obtain ⟨g', off, cur, rfl, hbq, _⟩ := h3 hx0
          cases hg
          exact hbq.lt) (fun e => HNE.out.2 hx0 g hg (by simpa using e.symm))⟩
        have HF := Lib.hid (And.intro hko (And.intro hgK (And.intro (HR2.out.1.put hm7 hg7) (HR2.out.2.2.2.grown hg7 (by have := HR2.out.2.2.2.size; omega) (fun k hk => by cases hk; exact HM.out)))))
        have HF2 := Lib.hid (And.intro (HR4.out.1.grown hg7 (fun e => by
          have e' : gs = bm := by simpa using e
          have := HGL.out
          have := HM.out
          omega)) (HR4.out.2.grownSB HR2.out.1.2 hg7))
        clear hm7 hg7 hko hgK hBm q5
        gi_wp2
        refine ⟨HF.out.1, HF.out.2.1, ⟨⟨⟨?_, Nat.lt_of_lt_of_le hglW HF.out.1.size⟩, ?_, ?_⟩, HF2.out⟩, HF.out.2.2.2⟩
        · rw [List.map_append, List.map_cons, List.map_nil, setP_one]; exact HF.out.2.2.1
        · have := HF.out.2.1.box
          have h2 := HR2.out.2.1
          unfold Blk at h2 ⊢
          rw [this, h2]
        · exact HR2.out.2.2.1.kept (fun g cur h _ => HF.out.2.1.row g h)
      case done =>
        rintro D zs W hD hzs ⟨⟨⟨⟨hP, hglW⟩, hgW, hLW⟩, hgsW, hT2W⟩, hB⟩ hK
        have hz : zs = xs := hzs
        subst hz
        rw [← setP_app] at hP
        have hD0 : w.heap.size ≤ D := by omega
        have q1 := hgsW.cell 1
        simp at q1
        have HR := Lib.hid (And.intro hP (And.intro hB (And.intro hT2W hK)))
        clear hP hB hK hgW hLW hglW hgsW hT2W hgb hL hvb hP6 hgs6 hT26 hB6 hgl hz6 hup hzs HNE hD

        gi_wp2
        rw [roundsIn_succ]
        gi_wp2
        generalize W = w4 at *
        refine ⟨trivial, (callsIn_wide.2 (treeAll_any w4 bt2 bmt2 xs2 HR.out.2.2.1)).mono ?_⟩
        rintro e w6 ⟨gb, v, rfl, hgb, hL, hge, hvb, hb6⟩
        have hK6 : w6.heap[D]? = some (Obj.deferred (some [])) := (hb6.block D (Array.getElem?_eq_some_iff.1 HR.out.2.2.2).1).trans HR.out.2.2.2
        have hD6 : D < w6.heap.size := (Array.getElem?_eq_some_iff.1 hK6).1
        have hP6 := HR.out.1.below hb6
        have hB6 := HR.out.2.1.trans (hb6.mono HR.out.2.1.size)
        have hgl := hgb.lt
        obtain ⟨cs0, hcs0⟩ := smapSB_blk hP6.2
        have hbmgb : bm ≠ gb := fun e => by subst e; exact Blk.other hcs0 hgb (by decide) rfl
        have hbmv : 0 < xs2.length → ∀ g, v.ownBlock = some g → bm ≠ g := fun h0 g hg e => by
          subst e
          obtain ⟨A, c, rfl, _, _, h3⟩ := hL
          obtain ⟨g', off, cur, rfl, hb, _⟩ := h3 h0
          cases hg
          exact Blk.other hcs0 hb (by decide) rfl
        have HNE := Lib.hid (And.intro hbmgb hbmv)
        have hup := hP6.2.up
        have hz6 := hB6.size
        clear hbmgb hbmv hcs0 hb6 hge q1
        gi_wp2
        refine wpIn_rangeFunc_tell (Mine := fun _ => False) (fun _ h => h.elim) rfl (by omega) (gf := 149) (lb := #[.pointer (some ⟨gb, 0, none⟩)]) rfl trivial (enters_of Tryz.func149 (by kernel_rfl) rfl)
          (toldSN_tells 8 (by omega) gb v xs2 w6 hgb hL (by omega)) KeepIt.trans (keepIt_b hgl hvb) (Below.refl _ _) (fun _ => rfl)
          (fun pre W => PtI T bm 0 (setP [] (L.map Prod.fst ++ zs.map Prod.fst)) [] gb v xs2 pre W ∧ Below w.heap.size w W ∧ W.heap[D]? = some (Obj.deferred (some [])))
          (fun c pre W => False)
          (OwnM.of_none (OwnFrom.and (Own.from (PtI.own T bm 0 (setP [] (L.map Prod.fst ++ zs.map Prod.fst)) [] gb v xs2) _) (OwnFrom.and (ownFrom_below (Nat.le_refl _) (by omega)) (ownFrom_put hD6))))
          (fun c => OwnM.of_none (fun _ _ _ _ hs _ _ => hs.elim))
          ⟨⟨⟨hP6, hgl⟩, hgb, hL⟩, hB6, hK6⟩
          ?b1 ?assign2 ?body2 ?done2 ?stop2
        case assign2 =>
          rintro l x W K hK
          gi_wp2
          exact hK
        case body2 =>
          rintro l pre x W ⟨⟨⟨hP, hglW⟩, hgW, hLW⟩, hB, hKD⟩ hTl
          have hx0 : 0 < xs2.length := by obtain ⟨r, hr⟩ := hTl; rw [← hr]; simp; omega
          have hpl : pre.length + 1 ≤ 1000 := by obtain ⟨r, hr⟩ := hTl; have := congrArg List.length hr; simp at this; omega
          have hxm : x ∈ xs2 := by obtain ⟨r, hr⟩ := hTl; rw [← hr]; simp
          have hq := HX2.out x hxm
          have q5 := hP.1.cell 0
          simp only [List.getElem?_toArray, List.getElem?_cons_succ, List.getElem?_cons_zero] at q5
          have hsl := setP_len (pre.map Prod.fst) (setP [] (L.map Prod.fst ++ zs.map Prod.fst))
          have hsl0 := setP_len (L.map Prod.fst ++ zs.map Prod.fst) []
          rw [List.length_append, List.length_map, List.length_map] at hsl0
          rw [List.length_map] at hsl
          simp only [List.length_nil, Nat.zero_add] at hsl0
          have hLn := HN.out
          have HPU := Lib.hid (srtPutSB_any W bm _ x.1 true hP.2 (by omega) hq)
          have HR2 := Lib.hid (And.intro hP (And.intro hgW (And.intro hLW hB)))
          have HR4 := Lib.hid hKD
          clear hP hgW hLW hB hTl hsl hsl0 hLn hKD
          obtain ⟨q, nd⟩ := x
          simp only at HPU hq ⊢
          gi_wp2
          refine ⟨trivial, (callsIn_wide.2 HPU.out).mono ?_⟩
          rintro e w7 ⟨rfl, hm7, hg7⟩
          have hBm : Blk W bm 153 (smapSB_blk HR2.out.1.2).choose := (smapSB_blk HR2.out.1.2).choose_spec
          have hko := keeps_grownF hg7 hBm
          have hgK : KeepIt gb v W w7 := ⟨hg7.size, hg7.block gb hglW (fun e => HNE.out.1 (by simpa using e.symm)), fun g hg => hg7.block g (by
            obtain ⟨A, c, rfl, _, _, h3⟩ := HR2.out.2.2.1
            obtain ⟨g', off, cur, rfl, hbq, _⟩ := h3 hx0
            cases hg
            exact hbq.lt) (fun e => HNE.out.2 hx0 g hg (by simpa using e.symm))⟩
          have HF := Lib.hid (And.intro hko (And.intro hgK (And.intro (HR2.out.1.put hm7 hg7) (HR2.out.2.2.2.grown hg7 (by have := HR2.out.2.2.2.size; omega) (fun k hk => by cases hk; exact HM.out)))))
          have HF2 := Lib.hid (show w7.heap[D]? = some (Obj.deferred (some [])) from hko.same D _ HR4.out rfl)
          clear hm7 hg7 hko hgK hBm q5
          gi_wp2
          refine ⟨HF.out.1, HF.out.2.1, ⟨⟨?_, Nat.lt_of_lt_of_le hglW HF.out.1.size⟩, ?_, ?_⟩, HF.out.2.2.2, HF2.out⟩
          · rw [List.map_append, List.map_cons, List.map_nil, setP_one]; exact HF.out.2.2.1
          · have := HF.out.2.1.box
            have h2 := HR2.out.2.1
            unfold Blk at h2 ⊢
            rw [this, h2]
          · exact HR2.out.2.2.1.kept (fun g cur h _ => HF.out.2.1.row g h)
        case done2 =>
          rintro D2 ys W hD2 hzs ⟨⟨⟨hP, hglW⟩, hgW, hLW⟩, hB, hKD⟩ hK
          have hz : ys = xs2 := hzs
          subst hz
          rw [← setP_app] at hP
          have q5 := hP.1.cell 0
          simp only [List.getElem?_toArray, List.getElem?_cons_succ, List.getElem?_cons_zero] at q5
          have hsl := setP_len (L.map Prod.fst ++ zs.map Prod.fst ++ ys.map Prod.fst) []
          rw [List.length_append, List.length_append, List.length_map, List.length_map, List.length_map] at hsl
          simp only [List.length_nil, Nat.zero_add] at hsl
          have hLn := HN.out
          have HKE := Lib.hid (keysSB_any W bm _ hP.2 (by omega))
          have HR3 := Lib.hid (And.intro hP (And.intro hB (And.intro hK hKD)))
          clear hP hB hK hgW hLW hsl hLn hKD
          gi_wp2
          rw [roundsIn_succ]
          gi_wp2
          refine ⟨trivial, (callsIn_wide.2 HKE.out).mono ?_⟩
          rintro e w8 ⟨u, rfl, ho8, hb8⟩
          have hK8 : w8.heap[D2]? = some (Obj.deferred (some [])) := (hb8.block D2 (Array.getElem?_eq_some_iff.1 HR3.out.2.2.1).1).trans HR3.out.2.2.1
          have hK9 : w8.heap[D]? = some (Obj.deferred (some [])) := (hb8.block D (Array.getElem?_eq_some_iff.1 HR3.out.2.2.2).1).trans HR3.out.2.2.2
          have hD' : w.heap.size ≤ D2 := by omega
          have hDD : D ≠ D2 := by omega
          have hpe : (setP [] (L.map Prod.fst ++ zs.map Prod.fst ++ ys.map Prod.fst)).map Prod.fst = pathsS ((l1 ++ l2).map Prod.fst ++ (zs.map Prod.fst ++ ys.map Prod.fst)) :=
            (pathsS_eq (pathsS_rise _) (fun q => by
              rw [pathsS_mem]
              simp only [List.mem_append, List.mem_map, HL.out.1.mem_iff, or_assoc]))
          have hB8 := HR3.out.2.1.trans (hb8.mono HR3.out.2.1.size)
          have HF := Lib.hid (And.intro (own_wide ho8 HR3.out.2.1.size : w8.ownsRow w.heap.size _ _ _ _ _) (And.intro hB8 hpe))
          clear ho8 hb8 hpe hB8 q5
          gi_wp2
          refine ⟨by simp, .inl ⟨_, _, rfl, run_takeDeferred hK8, ?_⟩⟩
          have hK10 : (w8.putObj D2 (.deferred none)).heap[D]? = some (Obj.deferred (some [])) := (World.putObj_heap_other hDD).trans hK9
          refine ⟨by simp, .inl ⟨_, _, rfl, run_takeDeferred hK10, ?_⟩⟩
          refine ⟨_, results_tmp rfl _ _ _, ⟨u, rfl, ?_, ?_⟩⟩
          · have h1 := own_ownF HF.out.1 (grownBy_putObj' w8 D2 (.deferred none)) (fun r e => show ∃ o : Obj, w8.heap[r]? = some o ∧ o.isCells = false from (by cases (e : some D2 = some r); exact ⟨_, hK8, rfl⟩))
            have h2 := own_ownF h1 (grownBy_putObj' (w8.putObj D2 (.deferred none)) D (.deferred none)) (fun r e => show ∃ o : Obj, (w8.putObj D2 (.deferred none)).heap[r]? = some o ∧ o.isCells = false from (by cases (e : some D = some r); exact ⟨_, hK10, rfl⟩))
            rw [← HF.out.2.2, List.length_map, List.map_map]
            exact h2
          · exact (HF.out.2.1.trans (belowK_b (w := w) (Nat.le_refl _) w8 D2 _ (.deferred none) hD' hK8 rfl rfl)).trans (belowK_b (w := w) (Nat.le_refl _) _ D _ (.deferred none) hD0 hK10 rfl rfl)
        case stop2 =>
          rintro D c pre W hD hSp h
          exact h.elim
      case stop =>
        rintro D c pre W hD hSp h
        exact h.elim
end Go.Proofs.YtlfeeiloijmagaaGreatDoor
/- Contracts of recon.Class, node.Same, recon.Decide, and of the reference's Class and Decide. -/
set_option linter.unusedVariables false
set_option linter.unusedSimpArgs false
namespace Sw
open Go
/-- the class of a conflict -/
def classN (a b : Nd) : Int := if a.kind = 0 ∨ b.kind = 0 then 2 else if a.kind ≠ b.kind then 3 else 1
/-- what is decided -/
def decideN (was : Pr) (had : Bool) (a b : Nd) : Int × Int :=
  if printN a = printN b then (0, 0) else if stateN was had a = 0 then (1, 0) else if stateN was had b = 0 then (2, 0) else (3, classN a b)
end Sw
namespace Go.Proofs.YtlfeeiloijmagaaGreatDoor
open Go.RowKit
open Sw
set_option maxRecDepth 100000 in
theorem eq_print (p q : Pr) (W : World) : (binOp .eql 62 (.agg p.c) (.agg q.c)).run Tryz.prog W = .ok (.bool (decide (p = q))) W := by
  obtain ⟨k1, m1, t1, z1, u1⟩ := p
  obtain ⟨k2, m2, t2, z2, u2⟩ := q
  unfold Pr.c
  by_cases h1 : k1 = k2
  · subst h1
    by_cases h2 : m1 = m2
    · subst h2
      by_cases h3 : t1 = t2
      · subst h3
        by_cases h4 : z1 = z2
        · subst h4
          by_cases h5 : u1 = u2
          · subst h5
            simp [go_sem, Tryz.underlying62, Tryz.underlying3, Tryz.underlying36]
          · have hb := beq_eq_false_iff_ne.2 h5
            simp [go_sem, hb, h5, Tryz.underlying62, Tryz.underlying3, Tryz.underlying36]
        · have hb := beq_eq_false_iff_ne.2 h4
          simp [go_sem, hb, h4, Tryz.underlying62, Tryz.underlying3, Tryz.underlying36]
      · have hb := beq_eq_false_iff_ne.2 h3
        simp [go_sem, hb, h3, Tryz.underlying62, Tryz.underlying3, Tryz.underlying36]
    · have hb := beq_eq_false_iff_ne.2 h2
      simp [go_sem, hb, h2, Tryz.underlying62, Tryz.underlying3, Tryz.underlying36]
  · have hb := beq_eq_false_iff_ne.2 h1
    simp [go_sem, hb, h1, Tryz.underlying62, Tryz.underlying3, Tryz.underlying36]
set_option maxRecDepth 100000 in
theorem class_any (w : World) (a b : Nd) :
    Calls Tryz.prog 75 #[.agg a.c, .agg b.c] w fun e w' => e = .returned (.int .i64 (classN a b)) ∧ Below w.heap.size w w' := by
  unfold classN Nd.c
  have hb2 := ((Below.refl w.heap.size w).alloc (Nat.le_refl _) (.cells #[.int .i64 a.kind, .int .i64 a.mode, .int .u32 a.time, .string a.data] 38)).alloc (by simp) (.cells #[.int .i64 b.kind, .int .i64 b.mode, .int .u32 b.time, .string b.data] 38)
  by_cases ha : a.kind = 0
  · have hab : (a.kind == 0) = true := by rw [beq_iff_eq]; exact ha
    rw [if_pos (.inl ha)]
    clear ha
    go_enter Tryz.func75, Tryz.ntmps75
    go_wp2_with fail
    go_ret
    exact ⟨rfl, hb2⟩
  · have hab : (a.kind == 0) = false := by rw [beq_eq_false_iff_ne]; exact ha
    by_cases hb : b.kind = 0
    · have hbb : (b.kind == 0) = true := by rw [beq_iff_eq]; exact hb
      rw [if_pos (.inr hb)]
      clear ha hb
      go_enter Tryz.func75, Tryz.ntmps75
      go_wp2_with fail
      go_ret
      exact ⟨rfl, hb2⟩
    · have hbb : (b.kind == 0) = false := by rw [beq_eq_false_iff_ne]; exact hb
      rw [if_neg (by omega)]
      by_cases hc : a.kind = b.kind
      · have hcb : (a.kind != b.kind) = false := by rw [bne_eq_false_iff_eq]; exact hc
        rw [if_neg (by omega)]
        clear ha hb hc
        go_enter Tryz.func75, Tryz.ntmps75
        go_wp2_with fail
        go_ret
        exact ⟨rfl, hb2⟩
      · have hcb : (a.kind != b.kind) = true := by rw [bne_iff_ne]; exact hc
        rw [if_pos hc]
        clear ha hb hc
        go_enter Tryz.func75, Tryz.ntmps75
        go_wp2_with fail
        go_ret
        exact ⟨rfl, hb2⟩
set_option maxRecDepth 100000 in
theorem refClass_any (w : World) (a b : Nd) :
    Calls Tryz.prog 42 #[.agg a.c, .agg b.c] w fun e w' => e = .returned (.int .i64 (classN a b)) ∧ Below w.heap.size w w' := by
  unfold classN Nd.c
  have hb2 := ((Below.refl w.heap.size w).alloc (Nat.le_refl _) (.cells #[.int .i64 a.kind, .int .i64 a.mode, .int .u32 a.time, .string a.data] 38)).alloc (by simp) (.cells #[.int .i64 b.kind, .int .i64 b.mode, .int .u32 b.time, .string b.data] 38)
  by_cases ha : a.kind = 0
  · have hab : (a.kind == 0) = true := by rw [beq_iff_eq]; exact ha
    rw [if_pos (.inl ha)]
    clear ha
    go_enter Tryz.func42, Tryz.ntmps42
    go_wp2_with fail
    go_ret
    exact ⟨rfl, hb2⟩
  · have hab : (a.kind == 0) = false := by rw [beq_eq_false_iff_ne]; exact ha
    by_cases hb : b.kind = 0
    · have hbb : (b.kind == 0) = true := by rw [beq_iff_eq]; exact hb
      rw [if_pos (.inr hb)]
      clear ha hb
      go_enter Tryz.func42, Tryz.ntmps42
      go_wp2_with fail
      go_ret
      exact ⟨rfl, hb2⟩
    · have hbb : (b.kind == 0) = false := by rw [beq_eq_false_iff_ne]; exact hb
      rw [if_neg (by omega)]
      by_cases hc : a.kind = b.kind
      · have hcb : (a.kind != b.kind) = false := by rw [bne_eq_false_iff_eq]; exact hc
        rw [if_neg (by omega)]
        clear ha hb hc
        go_enter Tryz.func42, Tryz.ntmps42
        go_wp2_with fail
        go_ret
        exact ⟨rfl, hb2⟩
      · have hcb : (a.kind != b.kind) = true := by rw [bne_iff_ne]; exact hc
        rw [if_pos hc]
        clear ha hb hc
        go_enter Tryz.func42, Tryz.ntmps42
        go_wp2_with fail
        go_ret
        exact ⟨rfl, hb2⟩
/-- two nodes in their boxes -/
def Nodes2 (w : World) (a b : Nd) (W : World) : Prop := Blk W w.heap.size 38 a.c ∧ Blk W (w.heap.size + 1) 38 b.c ∧ Below w.heap.size w W
theorem Nodes2.keep {w : World} {a b : Nd} (W W' : World) (h : Nodes2 w a b W) (hb : Below W.heap.size W W') : Nodes2 w a b W' := ⟨h.1.below hb h.1.lt, h.2.1.below hb h.2.1.lt, h.2.2.trans (hb.mono h.2.2.size)⟩
set_option maxRecDepth 100000 in
set_option maxHeartbeats 4000000 in
theorem nodeSame_any (w : World) (a b : Nd) (ha : a.data.size ≤ maxLen) (hb : b.data.size ≤ maxLen) :
    Calls Tryz.prog 74 #[.agg a.c, .agg b.c] w fun e w' => e = .returned (.bool (decide (printN a = printN b))) ∧ Below w.heap.size w w' := by
  have hA := fun W => print_any W a ha
  have hB := fun W => print_any W b hb
  have hEQ := fun W => eq_print (printN a) (printN b) W
  have hB0 : Nodes2 w a b ((w.alloc (.cells a.c 38)).alloc (.cells b.c 38)) := ⟨blk_fst _ _ _ _, blk_snd _ _ _ _, ((Below.refl _ _).alloc (Nat.le_refl _) _).alloc (by simp) _⟩
  have HB0 := Lib.hid hB0; clear hB0
  generalize printN a = p at *
  generalize printN b = q at *
  generalize decide (p = q) = r at *
  have q0 : ∀ x : Held (Nodes2 w a b), (HeldW x).cell? ⟨w.heap.size, 0, none⟩ = some (.int .i64 a.kind) := fun x => ((HeldW_spec x).1).cell 0
  have q1 : ∀ x : Held (Nodes2 w a b), (HeldW x).cell? ⟨w.heap.size, 1, none⟩ = some (.int .i64 a.mode) := fun x => ((HeldW_spec x).1).cell 1
  have q2 : ∀ x : Held (Nodes2 w a b), (HeldW x).cell? ⟨w.heap.size, 2, none⟩ = some (.int .u32 a.time) := fun x => ((HeldW_spec x).1).cell 2
  have q3 : ∀ x : Held (Nodes2 w a b), (HeldW x).cell? ⟨w.heap.size, 3, none⟩ = some (.string a.data) := fun x => ((HeldW_spec x).1).cell 3
  have n0 : ∀ x : Held (Nodes2 w a b), (HeldW x).cell? ⟨w.heap.size + 1, 0, none⟩ = some (.int .i64 b.kind) := fun x => ((HeldW_spec x).2.1).cell 0
  have n1 : ∀ x : Held (Nodes2 w a b), (HeldW x).cell? ⟨w.heap.size + 1, 1, none⟩ = some (.int .i64 b.mode) := fun x => ((HeldW_spec x).2.1).cell 1
  have n2 : ∀ x : Held (Nodes2 w a b), (HeldW x).cell? ⟨w.heap.size + 1, 2, none⟩ = some (.int .u32 b.time) := fun x => ((HeldW_spec x).2.1).cell 2
  have n3 : ∀ x : Held (Nodes2 w a b), (HeldW x).cell? ⟨w.heap.size + 1, 3, none⟩ = some (.string b.data) := fun x => ((HeldW_spec x).2.1).cell 3
  haveI : Nonempty (Held (Nodes2 w a b)) := held_some HB0.out
  unfold Nd.c Pr.c at *
  have HA := Lib.hid hA; clear hA
  have HB := Lib.hid hB; clear hB
  go_enter Tryz.func74, Tryz.ntmps74
  go_wp2_with fail
  refine wp_region_class (Nodes2 w a b) (by kernel_rfl) (by kernel_rfl) (by have h := HB0.out; exact ⟨h.1, h.2.1, h.2.2.drew⟩) ?_
  repeat (go_big_quiet_step (first | with_reducible exact held_below Nodes2.keep (HA.out _) | with_reducible exact held_below Nodes2.keep (HB.out _)))
  refine wpQuiet_nil ?_
  rintro _ ⟨nn, rfl⟩
  go_wp2_with fail
  go_ret
  exact ⟨rfl, (HeldW_spec nn).2.2⟩
set_option maxRecDepth 100000 in
set_option maxHeartbeats 4000000 in
theorem still_any (w : World) (g h : Nat) (was : Pr) (had : Bool) (n : Nd) (hm : n.data.size ≤ maxLen) (hg : Blk w g 62 was.c) (hh : Blk w h 4 #[.bool had]) :
    Calls Tryz.prog 72 #[.agg n.c, .pointer (some ⟨g, 0, none⟩), .pointer (some ⟨h, 0, none⟩)] w fun e w' => e = .returned (.bool (decide (stateN was had n = 0))) ∧ Below w.heap.size w w' := by
  have hst := fun W => state_any W was had n hm
  generalize stateN was had n = st at *
  have hlg := hg.lt
  have hlh := hh.lt
  have q0 := hg.cell 0
  have q1 := hg.cell 1
  have q2 := hg.cell 2
  have q3 := hg.cell 3
  have q4 := hg.cell 4
  have h0 := hh.cell 0
  unfold Pr.c at q0 q1 q2 q3 q4
  simp at q0 q1 q2 q3 q4 h0
  unfold Nd.c Pr.c at *
  have hng : g ≠ w.heap.size := by omega
  have hnh : h ≠ w.heap.size := by omega
  clear hg hh
  have HST := Lib.hid hst; clear hst
  by_cases hz : st = 0
  · have hzb : (st == 0) = true := by rw [beq_iff_eq]; exact hz
    rw [decide_eq_true hz]
    clear hz
    go_enter Tryz.func72, Tryz.ntmps72
    go_wp2_with fail
    refine (HST.out _).mono ?_
    rintro e w1 ⟨rfl, hb1⟩
    go_wp2_with fail
    go_ret
    exact ⟨rfl, ((Below.refl _ _).alloc (Nat.le_refl _) _).trans (hb1.mono (by simp))⟩
  · have hzb : (st == 0) = false := by rw [beq_eq_false_iff_ne]; exact hz
    rw [decide_eq_false hz]
    clear hz
    go_enter Tryz.func72, Tryz.ntmps72
    go_wp2_with fail
    refine (HST.out _).mono ?_
    rintro e w1 ⟨rfl, hb1⟩
    go_wp2_with fail
    go_ret
    exact ⟨rfl, ((Below.refl _ _).alloc (Nat.le_refl _) _).trans (hb1.mono (by simp))⟩
end Go.Proofs.YtlfeeiloijmagaaGreatDoor
/- Deciding, plainly: both sides the other way round. -/
set_option linter.unusedVariables false
set_option linter.unusedSimpArgs false
namespace Sw
open Go
/-- what is decided of a path -/
structure StR where
  path : ByteArray
  verdict : Int
  cls : Int
  left : Nd
  right : Nd
def stepR (L : List MkE) (xs ys : List NE) (p : ByteArray) : StR :=
  ⟨p, (decideN ((findM L p).getD ⟨0, 0, 0, 0, 0⟩) (findM L p).isSome (getT xs p) (getT ys p)).1, (decideN ((findM L p).getD ⟨0, 0, 0, 0, 0⟩) (findM L p).isSome (getT xs p) (getT ys p)).2, getT xs p, getT ys p⟩
def allR (L : List MkE) (xs ys : List NE) : List StR := (pathsS (L.map Prod.fst ++ xs.map Prod.fst ++ ys.map Prod.fst)).map (stepR L xs ys)
theorem paths_turn (a b c : List ByteArray) : pathsS (a ++ b ++ c) = pathsS (a ++ c ++ b) :=
  rise_ext (pathsS_rise _) (pathsS_rise _) (fun q => by
    rw [pathsS_mem, pathsS_mem]
    simp only [List.mem_append]
    exact ⟨fun h => by rcases h with (h | h) | h; exact .inl (.inl h); exact .inr h; exact .inl (.inr h), fun h => by rcases h with (h | h) | h; exact .inl (.inl h); exact .inr h; exact .inl (.inr h)⟩)
theorem getT_zero {xs : List NE} (h : TI xs) (p : ByteArray) (hk : (getT xs p).kind = 0) : getT xs p = ndZ := by
  rcases Classical.em (∃ e ∈ xs, e.1 = p) with ⟨e, he, rfl⟩ | hn
  · rw [getT_in h.up he] at hk
    exact absurd hk (h.nod e he).1
  · exact getT_out h.up (fun e he h => hn ⟨e, he, h⟩)
/-- the other way round -/
theorem decide_turn (was : Pr) (had : Bool) (a b : Nd) (ha : a.kind = 0 → a = ndZ) (hb : b.kind = 0 → b = ndZ) :
    (decideN was had b a).2 = (decideN was had a b).2 ∧ ((decideN was had a b).1 = 1 ∧ (decideN was had b a).1 = 2 ∨ (decideN was had a b).1 = 2 ∧ (decideN was had b a).1 = 1 ∨ (decideN was had a b).1 = (decideN was had b a).1 ∧ ¬ (decideN was had a b).1 = 1 ∧ ¬ (decideN was had a b).1 = 2) := by
  unfold decideN
  by_cases h1 : printN a = printN b
  · rw [if_pos h1, if_pos h1.symm]; simp
  · have h1' : ¬ printN b = printN a := fun h => h1 h.symm
    rw [if_neg h1, if_neg h1']
    have both : stateN was had a = 0 → ¬ stateN was had b = 0 := fun h2 h3 => by
      unfold stateN at h2 h3
      cases had with
      | false =>
        simp only [if_true] at h2 h3
        have e1 : a.kind = 0 := by
          by_cases h : a.kind = 0
          · exact h
          · rw [if_neg h] at h2; cases h2
        have e2 : b.kind = 0 := by
          by_cases h : b.kind = 0
          · exact h
          · rw [if_neg h] at h3; cases h3
        exact h1 (by rw [ha e1, hb e2])
      | true =>
        simp only [Bool.true_eq_false, if_false] at h2 h3
        have e1 : was = printN a := by
          by_cases h : was = printN a
          · exact h
          · rw [if_neg h] at h2; split at h2 <;> cases h2
        have e2 : was = printN b := by
          by_cases h : was = printN b
          · exact h
          · rw [if_neg h] at h3; split at h3 <;> cases h3
        exact h1 (e1.symm.trans e2)
    by_cases h2 : stateN was had a = 0
    · have h3 := both h2; simp [h2, h3]
    · by_cases h3 : stateN was had b = 0
      · simp [h2, h3]
      · simp only [if_neg h2, if_neg h3]
        have hc : classN b a = classN a b := by
          unfold classN
          by_cases e1 : a.kind = 0 ∨ b.kind = 0
          · rw [if_pos e1, if_pos (Or.symm e1)]
          · rw [if_neg e1, if_neg (fun h => e1 (Or.symm h))]
            by_cases e2 : a.kind = b.kind
            · rw [if_neg (by simpa using e2.symm), if_neg (by simpa using e2)]
            · rw [if_pos (fun h => e2 h.symm), if_pos e2]
        simp [hc]
theorem decide_self (was : Pr) (had : Bool) (a : Nd) : decideN was had a a = (0, 0) := by
  unfold decideN
  rw [if_pos rfl]
end Sw
