/- Several texts, joined for the limit of sixty files; each one opens with its own comment. -/
import Derived.Test.YtnpehjgnplaabaaGreatDoorJoin21
import Derived.Test.YtnpehjgnplaabaaGreatDoorJoin22
import Derived.Test.YtnpehjgnplaabaaGreatDoorJoin23
import Derived.Test.YtnpehjgnplaabaaGreatDoorJoin18
/- Several texts, joined for the limit of sixty files; each one opens with its own comment. -/
/- detect.Paths, at one tree and at two. -/
set_option linter.unusedVariables false
set_option linter.unusedSimpArgs false
namespace Go.Proofs.YtnpehjgnplaabaaGreatDoor
open Go Go.RowKit Go.Shelf
open Sw
attribute [local go_sem] Oper.semAt_some
theorem setP_one (X : List SbE) (ps : List ByteArray) (p : ByteArray) : setP X (ps ++ [p]) = putN ordS p true (setP X ps) := by rw [setP_app]; rfl
/-- words of a tree put into the set -/
def PtI (T bm B : Nat) (X0 : List SbE) (D0 : List Nat) (gb : Nat) (v : Value) (xs : List NE) (pre : List NE) (W : World) : Prop :=
  (PthI T bm (setP X0 (pre.map Prod.fst)) W ∧ gb < W.heap.size) ∧ Blk W gb 137 #[v] ∧ Lies W 146 5 eCSN v xs
theorem PtI.own (T bm B : Nat) (X0 : List SbE) (D0 : List Nat) (gb : Nat) (v : Value) (xs : List NE) : Own (PtI T bm B X0 D0 gb v xs) := fun _ A C row hs hg hr => ⟨⟨hs.1.1.ownF hg hr, Nat.lt_of_lt_of_le hs.1.2 hg.size⟩, blk_ownF hs.2.1 hg hr, hs.2.2.ownF hg hr⟩
end Go.Proofs.YtnpehjgnplaabaaGreatDoor
/- detect.Paths, at two trees. -/
set_option linter.unusedVariables false
set_option linter.unusedSimpArgs false
namespace Go.Proofs.YtnpehjgnplaabaaGreatDoor
open Go Go.RowKit Go.Shelf
open Sw
attribute [local go_sem] Oper.semAt_some
theorem TreeAt.ownF {W W' : World} {row : Option Nat} {bt bm : Nat} {X : List NE} (h : TreeAt W bt bm X) (hg : W.grownBy W' row) (hr : ∀ r, row = some r → ∃ o : Obj, W.heap[r]? = some o ∧ o.isCells = false) : TreeAt W' bt bm X := by
  refine ⟨blk_ownF h.box hg hr, ?_⟩
  obtain ⟨v, hb, ho⟩ := h.map.row
  exact ⟨⟨v, blk_ownF hb hg hr, own_ownF ho hg hr⟩, h.map.up, h.map.ok⟩
/-- words of a tree put into the set, the row of trees and another tree in their places -/
def Pt2I (T bm : Nat) (X0 : List SbE) (gs : Nat) (ts : TypeId) (p1 p2 : Value) (bt2 bmt2 : Nat) (xs2 : List NE) (gb : Nat) (v : Value) (xs : List NE) (pre : List NE) (W : World) : Prop :=
  PtI T bm 0 X0 [] gb v xs pre W ∧ Blk W gs ts #[p1, p2] ∧ TreeAt W bt2 bmt2 xs2
theorem Pt2I.own (T bm : Nat) (X0 : List SbE) (gs : Nat) (ts : TypeId) (p1 p2 : Value) (bt2 bmt2 : Nat) (xs2 : List NE) (gb : Nat) (v : Value) (xs : List NE) : Own (Pt2I T bm X0 gs ts p1 p2 bt2 bmt2 xs2 gb v xs) := fun s A C row hs hg hr => ⟨PtI.own T bm 0 X0 [] gb v xs s A C row hs.1 hg hr, blk_ownF hs.2.1 hg hr, hs.2.2.ownF hg hr⟩
set_option maxRecDepth 100000 in
set_option maxHeartbeats 8000000 in
theorem paths2_any (w : World) (u1 u2 : Value) (l1 l2 : List MkE) (gs : Nat) (ts : TypeId) (bt bmt bt2 bmt2 : Nat) (xs xs2 : List NE) (h1 : SlV w 6 eCM u1 l1) (h2 : SlV w 6 eCM u2 l2) (hl1 : l1.length ≤ 1000) (hl2 : l2.length ≤ 1000) (hp1 : ∀ m ∈ l1, m.1.size ≤ 90000) (hp2 : ∀ m ∈ l2, m.1.size ≤ 90000)
    (hgs : Blk w gs ts #[.pointer (some ⟨bt, 0, none⟩), .pointer (some ⟨bt2, 0, none⟩)]) (hT : TreeAt w bt bmt xs) (hT2 : TreeAt w bt2 bmt2 xs2) (hxl : xs.length ≤ 1000) (hxp : ∀ e ∈ xs, e.1.size ≤ 90000) (hxl2 : xs2.length ≤ 1000) (hxp2 : ∀ e ∈ xs2, e.1.size ≤ 90000) :
    Calls Tryz.prog 92 #[.agg #[u1, u2], .slice (some ⟨gs, 0, none⟩) 2 2] w fun e w' => ∃ u, e = .returned u ∧ w'.ownsRow w.heap.size 9 1 u (pathsS ((l1 ++ l2).map Prod.fst ++ (xs.map Prod.fst ++ xs2.map Prod.fst))).length ((pathsS ((l1 ++ l2).map Prod.fst ++ (xs.map Prod.fst ++ xs2.map Prod.fst))).map Value.string) ∧ Below w.heap.size w w' := by
  refine callsIn_wide.1 (?_ : CallsIn Fence.wide 9 _ _ _ _ _)
  refine callsIn_of_wp_marks Tryz.func92 rfl trivial ?_ rfl
  simp only [Tryz.ntmps92, List.size_toArray, List.length_cons, List.length_nil, Nat.reduceAdd, Nat.reduceSub, Array.replicate_succ, Array.replicate_zero, List.push_toArray, List.append_toArray, List.nil_append, List.cons_append]
  have hb0 : Below w.heap.size w (w.alloc (.cells #[u1, u2] 24)) := (Below.refl _ w).alloc (Nat.le_refl _) _
  have hB0 := Blk.new w 24 #[u1, u2]
  obtain ⟨W0, hW0⟩ : ∃ W0, w.alloc (.cells #[u1, u2] 24) = W0 := ⟨_, rfl⟩
  rw [hW0] at hb0 hB0
  have HN := Lib.hid (srtNewSB_any W0)
  have H0 := Lib.hid (And.intro hb0 (And.intro hB0 (And.intro (h1.below hb0 (Nat.le_refl _)) (And.intro (h2.below hb0 (Nat.le_refl _)) (And.intro (hT.below hb0) (And.intro (hgs.below hb0 hgs.lt) (hT2.below hb0)))))))
  have HW := Lib.hid hW0
  have HX := Lib.hid (And.intro hp1 (And.intro hp2 hxp))
  have HX2 := Lib.hid hxp2
  have HGL := Lib.hid hgs.lt
  clear h1 h2 hb0 hB0 hT hgs hW0 hp1 hp2 hxp hT2 hxp2
  gi_wp2
  rw [HW.out]
  refine ⟨trivial, (callsIn_wide.2 HN.out).mono ?_⟩
  rintro e w1 ⟨bm, rfl, hm, hbm, hb1⟩
  have hba : Below w1.heap.size w1 (w1.alloc (.cells #[.pointer (some ⟨bm, 0, none⟩)] 190)) := (Below.refl _ w1).alloc (Nat.le_refl _) _
  have hb2 := hb1.trans (hba.mono hb1.size)
  have H1 := Lib.hid (And.intro (show PthI w1.heap.size bm [] _ from ⟨Blk.new w1 _ _, hm.below hba⟩) (And.intro (H0.out.1.trans (hb2.mono H0.out.1.size)) (And.intro (H0.out.2.1.below hb2 H0.out.2.1.lt) (And.intro (H0.out.2.2.1.below hb2 (Nat.le_refl _)) (And.intro (H0.out.2.2.2.1.below hb2 (Nat.le_refl _)) (And.intro (H0.out.2.2.2.2.1.below hb2) (And.intro (H0.out.2.2.2.2.2.1.below hb2 H0.out.2.2.2.2.2.1.lt) (H0.out.2.2.2.2.2.2.below hb2))))))))
  have HM := Lib.hid (show w.heap.size ≤ bm from Nat.le_trans H0.out.1.size hbm)
  have q2a := H1.out.2.2.1.cell 0
  have q2b := H1.out.2.2.1.cell 1
  simp only [List.getElem?_toArray, List.getElem?_cons_succ, List.getElem?_cons_zero] at q2a q2b
  obtain ⟨W1, hW1⟩ : ∃ W1, w1.alloc (.cells #[.pointer (some ⟨bm, 0, none⟩)] 190) = W1 := ⟨_, rfl⟩
  obtain ⟨T, hTe⟩ : ∃ T, w1.heap.size = T := ⟨_, rfl⟩
  rw [hW1, hTe] at H1
  have HW1 := Lib.hid (And.intro hW1 hTe)
  have HBO := Lib.hid (both_any W1 u1 u2 l1 l2 H1.out.2.2.2.1 H1.out.2.2.2.2.1 (by omega) (by omega) HX.out.1 HX.out.2.1)
  clear hba hb2 hb1 hbm hm hW1 hTe HN H0
  gi_wp2
  rw [HW1.out.1, HW1.out.2]
  clear q2a q2b HW1
  refine ⟨trivial, (callsIn_wide.2 HBO.out).mono ?_⟩
  rintro e w2 ⟨u, L, rfl, hPm, ho, hb2⟩
  obtain ⟨A3, k3, rfl, hk3, -, -⟩ := SlV_of_any ho
  have hLl : L.length = l1.length + l2.length := by rw [hPm.length_eq, List.length_append]
  have hLp : ∀ m ∈ L, m.1.size ≤ 90000 := fun m hm => (List.mem_append.1 (hPm.mem_iff.1 hm)).elim (HX.out.1 m) (HX.out.2.1 m)
  have H2 := Lib.hid (And.intro (H1.out.1.below hb2) (And.intro (H1.out.2.1.trans (hb2.mono H1.out.2.1.size)) (And.intro ho (And.intro (H1.out.2.2.2.2.2.1.below hb2) (And.intro (H1.out.2.2.2.2.2.2.1.below hb2 H1.out.2.2.2.2.2.2.1.lt) (H1.out.2.2.2.2.2.2.2.below hb2))))))
  have HL := Lib.hid (And.intro hPm hLp)
  obtain ⟨n, hn⟩ : ∃ n, L.length = n := ⟨_, rfl⟩
  rw [hn] at H2 hLl hk3
  rw [hn]
  have HN := Lib.hid hn
  clear hPm hLp ho hb2 hn HBO H1
  gi_wp2
  gi_loopw [15] (fun iv wr => ∃ i : Nat, iv = .int .i64 i ∧ i ≤ n ∧ PthI T bm (setP [] ((L.take i).map Prod.fst)) wr ∧ Below w.heap.size w wr ∧ wr.ownsRow W1.heap.size 63 6 (.slice A3 n k3) n (L.flatMap eCM) ∧ TreeAt wr bt bmt xs ∧ Blk wr gs ts #[.pointer (some ⟨bt, 0, none⟩), .pointer (some ⟨bt2, 0, none⟩)] ∧ TreeAt wr bt2 bmt2 xs2) (fun iv _ => n - (intOf iv).toNat)
  case atStart => exact ⟨0, rfl, Nat.zero_le _, H2.out.1, H2.out.2.1, H2.out.2.2.1, H2.out.2.2.2.1, H2.out.2.2.2.2.1, H2.out.2.2.2.2.2⟩
  case round =>
    obtain ⟨i, rfl, hi, hP, hb, ho, hT, hgs, hT2⟩ := hrel
    by_cases hlt : i < n
    · have hiL : i < L.length := by have := HN.out; omega
      have hsl := SlV.of_own (l := L) ho eCM_len (by decide)
      obtain ⟨A', c', hA, _, _, hso⟩ := hsl
      obtain ⟨rfl, rfl⟩ : A3 = A' ∧ k3 = c' := by injection hA with e1 e2 e3; exact ⟨e1, e3⟩
      clear hA
      obtain ⟨b, off, rfl, hbb, hcs⟩ := hso (by omega)
      have c0 := hcs i hiL 0 (by omega)
      have c1 := hcs i hiL 1 (by omega)
      have c2 := hcs i hiL 2 (by omega)
      have c3' := hcs i hiL 3 (by omega)
      have c4 := hcs i hiL 4 (by omega)
      have c5 := hcs i hiL 5 (by omega)
      simp only [eCM, List.getElem?_cons_succ, List.getElem?_cons_zero, Nat.add_zero] at c0 c1 c2 c3' c4 c5
      clear hcs hso
      have hi1 : (i : Int) < n := by omega
      have hq := HL.out.2 _ (List.getElem_mem hiL)
      have hst : setP [] ((L.take (i + 1)).map Prod.fst) = putN ordS L[i].1 true (setP [] ((L.take i).map Prod.fst)) := by
        rw [List.take_succ_eq_append_getElem hiL, List.map_append, List.map_cons, List.map_nil, setP_one]
      have hsl := setP_len ((L.take i).map Prod.fst) []
      rw [List.length_map, List.length_take] at hsl
      simp only [List.length_nil, Nat.zero_add] at hsl
      obtain ⟨⟨q, ⟨kd, md, tm, sz, sm⟩⟩, hx⟩ : ∃ x, L[i] = x := ⟨_, rfl⟩
      simp only [hx] at c0 c1 c2 c3' c4 c5 hq hst
      clear hx
      have hba := (Below.refl wr.heap.size wr).alloc (Nat.le_refl _) (.cells #[.string q, .int .i64 kd, .int .i64 md, .int .u32 tm, .int .i64 sz, .int .u32 sm] 63)
      have HPI := Lib.hid (hP.below hba)
      have q5 := HPI.out.1.cell 0
      simp only [List.getElem?_toArray, List.getElem?_cons_succ, List.getElem?_cons_zero] at q5
      have HPU := Lib.hid (srtPutSB_any _ bm _ q true HPI.out.2 (by omega) hq)
      have HR := Lib.hid (And.intro (hb.trans (hba.mono hb.size)) (And.intro (own_kept ho hba) (And.intro (hT.below hba) (And.intro (hgs.below hba hgs.lt) (And.intro hst (hT2.below hba))))))
      clear hP hb ho hT hgs hba hst hsl hT2
      gi_wp2
      refine ⟨trivial, (callsIn_wide.2 HPU.out).mono ?_⟩
      rintro e w5 ⟨rfl, hm5, hg5⟩
      have H5 := Lib.hid (And.intro (HPI.out.put hm5 hg5) (And.intro (HR.out.1.grown hg5 HR.out.1.size (fun k hk => by cases hk; exact HM.out)) (And.intro (show w5.ownsRow W1.heap.size 63 6 _ n (L.flatMap eCM) from by
        obtain ⟨cs, hB⟩ := smapSB_blk HPI.out.2
        exact own_grown_typSB HR.out.2.1 hg5 hB (by decide)) (And.intro (HR.out.2.2.1.grownSB HPI.out.2 hg5) (And.intro (HR.out.2.2.2.1.grown hg5 (fun e => by
          have e' : gs = bm := by simpa using e
          have := HGL.out
          have := HM.out
          omega)) (HR.out.2.2.2.2.2.grownSB HPI.out.2 hg5)))))) 
      clear hm5 hg5 q5 HPU
      gi_wp2
      go_roundw
      case rel => exact ⟨i + 1, by go_num, by omega, by rw [HR.out.2.2.2.2.1]; exact H5.out.1, H5.out.2.1, H5.out.2.2.1, H5.out.2.2.2.1, H5.out.2.2.2.2.1, H5.out.2.2.2.2.2⟩
      case measure => simp [intOf]; omega
    · obtain rfl : i = n := by omega
      have hf : L.take i = L := List.take_of_length_le (by have := HN.out; omega)
      rw [hf] at hP
      clear hf ho
      have HR := Lib.hid (And.intro hP (And.intro hb (And.intro hT (And.intro hgs hT2))))
      have q1 := hgs.cell 0
      simp at q1
      clear hP hb hT hgs hT2 H2
      gi_wp2
      refine wpIn_loop_rounds 3 ?_
      rw [roundsIn_succ]
      gi_wp2
      generalize wr = w4 at *
      refine ⟨trivial, (callsIn_wide.2 (treeAll_any w4 bt bmt xs HR.out.2.2.1)).mono ?_⟩
      rintro e w6 ⟨gb, v, rfl, hgb, hL, hge, hvb, hb6⟩
      have hP6 := HR.out.1.below hb6
      have hB6 := HR.out.2.1.trans (hb6.mono HR.out.2.1.size)
      have hgl := hgb.lt
      obtain ⟨cs0, hcs0⟩ := smapSB_blk hP6.2
      have hbmgb : bm ≠ gb := fun e => by subst e; exact Blk.other hcs0 hgb (by decide) rfl
      have hbmv : 0 < xs.length → ∀ g, v.ownBlock = some g → bm ≠ g := fun h0 g hg e => by
        subst e
        obtain ⟨A, c, rfl, _, _, h3⟩ := hL
        obtain ⟨g', off, cur, rfl, hb, _⟩ := h3 h0
        cases hg
        exact Blk.other hcs0 hb (by decide) rfl
      have HNE := Lib.hid (And.intro hbmgb hbmv)
      have hup := hP6.2.up
      have hz6 := hB6.size
      have hgs6 := HR.out.2.2.2.1.below hb6 HR.out.2.2.2.1.lt
      have hT26 := HR.out.2.2.2.2.below hb6
      clear hbmgb hbmv hcs0 hb6 hge q1
      gi_wp2
      refine wpIn_rangeFunc_tell (Mine := fun _ => False) (fun _ h => h.elim) rfl (by omega) (gf := 154) (lb := #[.pointer (some ⟨gb, 0, none⟩)]) rfl trivial (enters_of Tryz.func154 (by kernel_rfl) rfl)
        (toldSN_tells 8 (by omega) gb v xs w6 hgb hL (by omega)) KeepIt.trans (keepIt_b hgl hvb) (Below.refl _ _) (fun _ => rfl)
        (fun pre W => Pt2I T bm (setP [] (L.map Prod.fst)) gs ts (.pointer (some ⟨bt, 0, none⟩)) (.pointer (some ⟨bt2, 0, none⟩)) bt2 bmt2 xs2 gb v xs pre W ∧ Below w.heap.size w W)
        (fun c pre W => False)
        (OwnM.of_none (OwnFrom.and (Own.from (Pt2I.own T bm (setP [] (L.map Prod.fst)) gs ts (.pointer (some ⟨bt, 0, none⟩)) (.pointer (some ⟨bt2, 0, none⟩)) bt2 bmt2 xs2 gb v xs) _) (ownFrom_below (Nat.le_refl _) (by omega))))
        (fun c => OwnM.of_none (fun _ _ _ _ hs _ _ => hs.elim))
        ⟨⟨⟨⟨hP6, hgl⟩, hgb, hL⟩, hgs6, hT26⟩, hB6⟩
        ?a1 ?assign ?body ?done ?stop
      case assign =>
        rintro l x W K hK
        gi_wp2
        exact hK
      case body =>
        rintro l pre x W ⟨⟨⟨⟨hP, hglW⟩, hgW, hLW⟩, hgsW, hT2W⟩, hB⟩ hTl
        have hx0 : 0 < xs.length := by obtain ⟨r, hr⟩ := hTl; rw [← hr]; simp; omega
        have hpl : pre.length + 1 ≤ 1000 := by obtain ⟨r, hr⟩ := hTl; have := congrArg List.length hr; simp at this; omega
        have hxm : x ∈ xs := by obtain ⟨r, hr⟩ := hTl; rw [← hr]; simp
        have hq := HX.out.2.2 x hxm
        have q5 := hP.1.cell 0
        simp only [List.getElem?_toArray, List.getElem?_cons_succ, List.getElem?_cons_zero] at q5
        have hsl := setP_len (pre.map Prod.fst) (setP [] (L.map Prod.fst))
        have hsl0 := setP_len (L.map Prod.fst) []
        rw [List.length_map] at hsl hsl0
        simp only [List.length_nil, Nat.zero_add] at hsl0
        have hLn := HN.out
        have HPU := Lib.hid (srtPutSB_any W bm _ x.1 true hP.2 (by omega) hq)
        have HR2 := Lib.hid (And.intro hP (And.intro hgW (And.intro hLW hB)))
        have HR4 := Lib.hid (And.intro hgsW hT2W)
        clear hP hgW hLW hB hTl hsl hsl0 hLn hgsW hT2W
        obtain ⟨q, nd⟩ := x
        simp only at HPU hq ⊢
        gi_wp2
        refine ⟨trivial, (callsIn_wide.2 HPU.out).mono ?_⟩
        rintro e w7 ⟨rfl, hm7, hg7⟩
        have hBm : Blk W bm 221 (smapSB_blk HR2.out.1.2).choose := (smapSB_blk HR2.out.1.2).choose_spec
        have hko := keeps_grownF hg7 hBm
        have hgK : KeepIt gb v W w7 := ⟨hg7.size, hg7.block gb hglW (fun e => HNE.out.1 (by simpa using e.symm)), fun g hg => hg7.block g (by
          obtain ⟨A, c, rfl, _, _, h3⟩ := HR2.out.2.2.1
          obtain ⟨g', off, cur, rfl, hbq, _⟩ := h3 hx0
          cases hg
          exact hbq.lt) (fun e => HNE.out.2 hx0 g hg (by simpa using e.symm))⟩
        have HF := Lib.hid (And.intro hko (And.intro hgK (And.intro (HR2.out.1.put hm7 hg7) (HR2.out.2.2.2.grown hg7 (by have := HR2.out.2.2.2.size; omega) (fun k hk => by cases hk; exact HM.out)))))
        have HF2 := Lib.hid (And.intro (HR4.out.1.grown hg7 (fun e => by
          have e' : gs = bm := by simpa using e
          have := HGL.out
          have := HM.out
          omega)) (HR4.out.2.grownSB HR2.out.1.2 hg7))
        clear hm7 hg7 hko hgK hBm q5
        gi_wp2
        refine ⟨HF.out.1, HF.out.2.1, ⟨⟨⟨?_, Nat.lt_of_lt_of_le hglW HF.out.1.size⟩, ?_, ?_⟩, HF2.out⟩, HF.out.2.2.2⟩
        · rw [List.map_append, List.map_cons, List.map_nil, setP_one]; exact HF.out.2.2.1
        · have := HF.out.2.1.box
          have h2 := HR2.out.2.1
          unfold Blk at h2 ⊢
          rw [this, h2]
        · exact HR2.out.2.2.1.kept (fun g cur h _ => HF.out.2.1.row g h)
      case done =>
        rintro D zs W hD hzs ⟨⟨⟨⟨hP, hglW⟩, hgW, hLW⟩, hgsW, hT2W⟩, hB⟩ hK
        have hz : zs = xs := hzs
        subst hz
        rw [← setP_app] at hP
        have hD0 : w.heap.size ≤ D := by omega
        have q1 := hgsW.cell 1
        simp at q1
        have HR := Lib.hid (And.intro hP (And.intro hB (And.intro hT2W hK)))
        clear hP hB hK hgW hLW hglW hgsW hT2W hgb hL hvb hP6 hgs6 hT26 hB6 hgl hz6 hup hzs HNE hD

        gi_wp2
        rw [roundsIn_succ]
        gi_wp2
        generalize W = w4 at *
        refine ⟨trivial, (callsIn_wide.2 (treeAll_any w4 bt2 bmt2 xs2 HR.out.2.2.1)).mono ?_⟩
        rintro e w6 ⟨gb, v, rfl, hgb, hL, hge, hvb, hb6⟩
        have hK6 : w6.heap[D]? = some (Obj.deferred (some [])) := (hb6.block D (Array.getElem?_eq_some_iff.1 HR.out.2.2.2).1).trans HR.out.2.2.2
        have hD6 : D < w6.heap.size := (Array.getElem?_eq_some_iff.1 hK6).1
        have hP6 := HR.out.1.below hb6
        have hB6 := HR.out.2.1.trans (hb6.mono HR.out.2.1.size)
        have hgl := hgb.lt
        obtain ⟨cs0, hcs0⟩ := smapSB_blk hP6.2
        have hbmgb : bm ≠ gb := fun e => by subst e; exact Blk.other hcs0 hgb (by decide) rfl
        have hbmv : 0 < xs2.length → ∀ g, v.ownBlock = some g → bm ≠ g := fun h0 g hg e => by
          subst e
          obtain ⟨A, c, rfl, _, _, h3⟩ := hL
          obtain ⟨g', off, cur, rfl, hb, _⟩ := h3 h0
          cases hg
          exact Blk.other hcs0 hb (by decide) rfl
        have HNE := Lib.hid (And.intro hbmgb hbmv)
        have hup := hP6.2.up
        have hz6 := hB6.size
        clear hbmgb hbmv hcs0 hb6 hge q1
        gi_wp2
        refine wpIn_rangeFunc_tell (Mine := fun _ => False) (fun _ h => h.elim) rfl (by omega) (gf := 154) (lb := #[.pointer (some ⟨gb, 0, none⟩)]) rfl trivial (enters_of Tryz.func154 (by kernel_rfl) rfl)
          (toldSN_tells 8 (by omega) gb v xs2 w6 hgb hL (by omega)) KeepIt.trans (keepIt_b hgl hvb) (Below.refl _ _) (fun _ => rfl)
          (fun pre W => PtI T bm 0 (setP [] (L.map Prod.fst ++ zs.map Prod.fst)) [] gb v xs2 pre W ∧ Below w.heap.size w W ∧ W.heap[D]? = some (Obj.deferred (some [])))
          (fun c pre W => False)
          (OwnM.of_none (OwnFrom.and (Own.from (PtI.own T bm 0 (setP [] (L.map Prod.fst ++ zs.map Prod.fst)) [] gb v xs2) _) (OwnFrom.and (ownFrom_below (Nat.le_refl _) (by omega)) (ownFrom_put hD6))))
          (fun c => OwnM.of_none (fun _ _ _ _ hs _ _ => hs.elim))
          ⟨⟨⟨hP6, hgl⟩, hgb, hL⟩, hB6, hK6⟩
          ?b1 ?assign2 ?body2 ?done2 ?stop2
        case assign2 =>
          rintro l x W K hK
          gi_wp2
          exact hK
        case body2 =>
          rintro l pre x W ⟨⟨⟨hP, hglW⟩, hgW, hLW⟩, hB, hKD⟩ hTl
          have hx0 : 0 < xs2.length := by obtain ⟨r, hr⟩ := hTl; rw [← hr]; simp; omega
          have hpl : pre.length + 1 ≤ 1000 := by obtain ⟨r, hr⟩ := hTl; have := congrArg List.length hr; simp at this; omega
          have hxm : x ∈ xs2 := by obtain ⟨r, hr⟩ := hTl; rw [← hr]; simp
          have hq := HX2.out x hxm
          have q5 := hP.1.cell 0
          simp only [List.getElem?_toArray, List.getElem?_cons_succ, List.getElem?_cons_zero] at q5
          have hsl := setP_len (pre.map Prod.fst) (setP [] (L.map Prod.fst ++ zs.map Prod.fst))
          have hsl0 := setP_len (L.map Prod.fst ++ zs.map Prod.fst) []
          rw [List.length_append, List.length_map, List.length_map] at hsl0
          rw [List.length_map] at hsl
          simp only [List.length_nil, Nat.zero_add] at hsl0
          have hLn := HN.out
          have HPU := Lib.hid (srtPutSB_any W bm _ x.1 true hP.2 (by omega) hq)
          have HR2 := Lib.hid (And.intro hP (And.intro hgW (And.intro hLW hB)))
          have HR4 := Lib.hid hKD
          clear hP hgW hLW hB hTl hsl hsl0 hLn hKD
          obtain ⟨q, nd⟩ := x
          simp only at HPU hq ⊢
          gi_wp2
          refine ⟨trivial, (callsIn_wide.2 HPU.out).mono ?_⟩
          rintro e w7 ⟨rfl, hm7, hg7⟩
          have hBm : Blk W bm 221 (smapSB_blk HR2.out.1.2).choose := (smapSB_blk HR2.out.1.2).choose_spec
          have hko := keeps_grownF hg7 hBm
          have hgK : KeepIt gb v W w7 := ⟨hg7.size, hg7.block gb hglW (fun e => HNE.out.1 (by simpa using e.symm)), fun g hg => hg7.block g (by
            obtain ⟨A, c, rfl, _, _, h3⟩ := HR2.out.2.2.1
            obtain ⟨g', off, cur, rfl, hbq, _⟩ := h3 hx0
            cases hg
            exact hbq.lt) (fun e => HNE.out.2 hx0 g hg (by simpa using e.symm))⟩
          have HF := Lib.hid (And.intro hko (And.intro hgK (And.intro (HR2.out.1.put hm7 hg7) (HR2.out.2.2.2.grown hg7 (by have := HR2.out.2.2.2.size; omega) (fun k hk => by cases hk; exact HM.out)))))
          have HF2 := Lib.hid (show w7.heap[D]? = some (Obj.deferred (some [])) from hko.same D _ HR4.out rfl)
          clear hm7 hg7 hko hgK hBm q5
          gi_wp2
          refine ⟨HF.out.1, HF.out.2.1, ⟨⟨?_, Nat.lt_of_lt_of_le hglW HF.out.1.size⟩, ?_, ?_⟩, HF.out.2.2.2, HF2.out⟩
          · rw [List.map_append, List.map_cons, List.map_nil, setP_one]; exact HF.out.2.2.1
          · have := HF.out.2.1.box
            have h2 := HR2.out.2.1
            unfold Blk at h2 ⊢
            rw [this, h2]
          · exact HR2.out.2.2.1.kept (fun g cur h _ => HF.out.2.1.row g h)
        case done2 =>
          rintro D2 ys W hD2 hzs ⟨⟨⟨hP, hglW⟩, hgW, hLW⟩, hB, hKD⟩ hK
          have hz : ys = xs2 := hzs
          subst hz
          rw [← setP_app] at hP
          have q5 := hP.1.cell 0
          simp only [List.getElem?_toArray, List.getElem?_cons_succ, List.getElem?_cons_zero] at q5
          have hsl := setP_len (L.map Prod.fst ++ zs.map Prod.fst ++ ys.map Prod.fst) []
          rw [List.length_append, List.length_append, List.length_map, List.length_map, List.length_map] at hsl
          simp only [List.length_nil, Nat.zero_add] at hsl
          have hLn := HN.out
          have HKE := Lib.hid (keysSB_any W bm _ hP.2 (by omega))
          have HR3 := Lib.hid (And.intro hP (And.intro hB (And.intro hK hKD)))
          clear hP hB hK hgW hLW hsl hLn hKD
          gi_wp2
          rw [roundsIn_succ]
          gi_wp2
          refine ⟨trivial, (callsIn_wide.2 HKE.out).mono ?_⟩
          rintro e w8 ⟨u, rfl, ho8, hb8⟩
          have hK8 : w8.heap[D2]? = some (Obj.deferred (some [])) := (hb8.block D2 (Array.getElem?_eq_some_iff.1 HR3.out.2.2.1).1).trans HR3.out.2.2.1
          have hK9 : w8.heap[D]? = some (Obj.deferred (some [])) := (hb8.block D (Array.getElem?_eq_some_iff.1 HR3.out.2.2.2).1).trans HR3.out.2.2.2
          have hD' : w.heap.size ≤ D2 := by omega
          have hDD : D ≠ D2 := by omega
          have hpe : (setP [] (L.map Prod.fst ++ zs.map Prod.fst ++ ys.map Prod.fst)).map Prod.fst = pathsS ((l1 ++ l2).map Prod.fst ++ (zs.map Prod.fst ++ ys.map Prod.fst)) :=
            (pathsS_eq (pathsS_rise _) (fun q => by
              rw [pathsS_mem]
              simp only [List.mem_append, List.mem_map, HL.out.1.mem_iff, or_assoc]))
          have hB8 := HR3.out.2.1.trans (hb8.mono HR3.out.2.1.size)
          have HF := Lib.hid (And.intro (own_wide ho8 HR3.out.2.1.size : w8.ownsRow w.heap.size _ _ _ _ _) (And.intro hB8 hpe))
          clear ho8 hb8 hpe hB8 q5
          gi_wp2
          refine ⟨by simp, .inl ⟨_, _, rfl, run_takeDeferred hK8, ?_⟩⟩
          have hK10 : (w8.putObj D2 (.deferred none)).heap[D]? = some (Obj.deferred (some [])) := (World.putObj_heap_other hDD).trans hK9
          refine ⟨by simp, .inl ⟨_, _, rfl, run_takeDeferred hK10, ?_⟩⟩
          refine ⟨_, results_tmp rfl _ _ _, ⟨u, rfl, ?_, ?_⟩⟩
          · have h1 := own_ownF HF.out.1 (grownBy_putObj' w8 D2 (.deferred none)) (fun r e => show ∃ o : Obj, w8.heap[r]? = some o ∧ o.isCells = false from (by cases (e : some D2 = some r); exact ⟨_, hK8, rfl⟩))
            have h2 := own_ownF h1 (grownBy_putObj' (w8.putObj D2 (.deferred none)) D (.deferred none)) (fun r e => show ∃ o : Obj, (w8.putObj D2 (.deferred none)).heap[r]? = some o ∧ o.isCells = false from (by cases (e : some D = some r); exact ⟨_, hK10, rfl⟩))
            rw [← HF.out.2.2, List.length_map, List.map_map]
            exact h2
          · exact (HF.out.2.1.trans (belowK_b (w := w) (Nat.le_refl _) w8 D2 _ (.deferred none) hD' hK8 rfl rfl)).trans (belowK_b (w := w) (Nat.le_refl _) _ D _ (.deferred none) hD0 hK10 rfl rfl)
        case stop2 =>
          rintro D c pre W hD hSp h
          exact h.elim
      case stop =>
        rintro D c pre W hD hSp h
        exact h.elim
end Go.Proofs.YtnpehjgnplaabaaGreatDoor
