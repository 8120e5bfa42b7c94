/- Several texts, joined for the limit of sixty files; each one opens with its own comment. -/
import Derived.Test.YtmpgmgjokliceaaGreatDoorJoin24
import Derived.Test.YtmpgmgjokliceaaGreatDoorJoin27
import Derived.Test.YtmpgmgjokliceaaGreatDoorJoin22
import Derived.Test.YtmpgmgjokliceaaGreatDoorJoin18
import Derived.Test.YtmpgmgjokliceaaGreatDoorJoin21
/- The plan of two trees: plan.Of. -/
set_option linter.unusedVariables false
set_option linter.unusedSimpArgs false
namespace Go.Proofs.YtmpgmgjokliceaaGreatDoor
open Go Go.RowKit Go.Shelf
open Sw
attribute [local go_sem] Oper.semAt_some
theorem SMapSB.keptR {W W' : World} {B0 : Nat} {ts : List TypeId} {bm : Nat} {X : List SbE} (h : SMapSB W bm X) (hk : KeepR B0 ts W W') (h1 : ¬ 154 ∈ ts) (h2 : ¬ 152 ∈ ts) : SMapSB W' bm X := by
  obtain ⟨v, hb, ho⟩ := h.row
  exact ⟨⟨v, hk.row _ _ _ hb h1, own_keptR ho hk h2⟩, h.up, h.ok⟩
theorem fmap_one {α β : Type} (f : α → Option β) (l : List α) (x : α) : (l ++ [x]).filterMap f = l.filterMap f ++ (f x).toList := by
  rw [List.filterMap_append]
  congr 1
/-- what is said in a range over the paths: the maker with the steps so far -/
def QoI (base gm bt bm1 bt2 bm2 : Nat) (u : Value) (tops : List ByteArray) (xs ys : List NE) (l0 : List StepP) (f : ByteArray → Option StepP) (T sm : Nat) (F : List SbE) (gb : Nat) (v : Value) (G : List SbE) (pre : List SbE) (W : World) : Prop :=
  (∃ l, l.map Prod.fst = l0 ++ (pre.map Prod.fst).filterMap f ∧ MkrAt base gm bt bm1 bt2 bm2 u tops xs ys l W) ∧ Blk W T 73 #[.pointer (some ⟨gm, 0, none⟩)] ∧ gb < W.heap.size ∧ Blk W gb 149 #[v] ∧ Lies W 152 2 eCSB v G ∧ SMapSB W sm F
theorem QoI.own (base gm bt bm1 bt2 bm2 : Nat) (u : Value) (tops : List ByteArray) (xs ys : List NE) (l0 : List StepP) (f : ByteArray → Option StepP) (T sm : Nat) (F : List SbE) (gb : Nat) (v : Value) (G : List SbE) : Own (QoI base gm bt bm1 bt2 bm2 u tops xs ys l0 f T sm F gb v G) := fun _ A C row hs hg hr => by
  obtain ⟨⟨l, h1, h2⟩, h3, h4, h5, h6, h7⟩ := hs
  exact ⟨⟨l, h1, h2.own hg hr⟩, blk_ownF h3 hg hr, Nat.lt_of_lt_of_le h4 hg.size, blk_ownF h5 hg hr, h6.ownF hg hr, h7.ownF hg hr⟩
theorem QoI.step {base gm bt bm1 bt2 bm2 : Nat} {u : Value} {tops : List ByteArray} {xs ys : List NE} {l0 : List StepP} {f : ByteArray → Option StepP} {T sm : Nat} {F : List SbE} {gb : Nat} {v : Value} {G pre : List SbE} {W W' : World} {l : List (StepP × Value)} {x : SbE} {e : Ending}
    (h : Blk W T 73 #[.pointer (some ⟨gm, 0, none⟩)] ∧ gb < W.heap.size ∧ Blk W gb 149 #[v] ∧ Lies W 152 2 eCSB v G ∧ SMapSB W sm F) (hl : l.map Prod.fst = l0 ++ (pre.map Prod.fst).filterMap f) (hp : MkrPost base gm bt bm1 bt2 bm2 u tops xs ys l (f x.1) W e W') (hG : 0 < G.length) :
    KeepsOthers W W' ∧ KeepIt gb v W W' ∧ QoI base gm bt bm1 bt2 bm2 u tops xs ys l0 f T sm F gb v G (pre ++ [x]) W' ∧ Below base W W' := by
  obtain ⟨-, l2, hl2, hM, hK⟩ := hp
  have hsz := hK.keeps.size
  refine ⟨hK.keeps, ⟨hsz, ?_, fun g hg => ?_⟩, ⟨⟨l ++ l2, ?_, hM⟩, hK.kr.row _ _ _ h.1 (by decide), Nat.lt_of_lt_of_le h.2.1 hsz, hK.kr.row _ _ _ h.2.2.1 (by decide), h.2.2.2.1.keptR hK.kr (by decide), h.2.2.2.2.keptR hK.kr (by decide) (by decide)⟩, hK.kr.low⟩
  · have h1 := h.2.2.1
    have h2 := hK.kr.row _ _ _ h1 (by decide)
    unfold Blk at h1 h2
    rw [h1, h2]
  · obtain ⟨A, c, rfl, _, _, h3⟩ := h.2.2.2.1
    obtain ⟨g', off, cur, rfl, hbq, _⟩ := h3 hG
    cases hg
    have h2 := hK.kr.row _ _ _ hbq (by decide)
    unfold Blk at hbq h2
    rw [hbq, h2]
  · rw [List.map_append, hl, hl2, List.map_append, List.map_cons, List.map_nil, fmap_one, List.append_assoc]
set_option maxRecDepth 100000 in
set_option maxHeartbeats 8000000 in
theorem planOf_any (w : World) (bt bm1 bt2 bm2 : Nat) (gv : Value) (grafts : List ByteArray) (xs ys : List NE) (h1 : TreeAt w bt bm1 xs) (h2 : TreeAt w bt2 bm2 ys) (hg : SlV w 1 sE gv grafts) (hxl : xs.length ≤ 1000) (hyl : ys.length ≤ 1000) (hgl : grafts.length ≤ 1000) (hxp : ∀ e ∈ xs, e.1.size ≤ 90000) (hyp : ∀ e ∈ ys, e.1.size ≤ 90000) (hgz : ∀ p ∈ grafts, p.size ≤ 90000) (hxd : ∀ e ∈ xs, e.2.data.size ≤ maxLen) (hyd : ∀ e ∈ ys, e.2.data.size ≤ maxLen) :
    Calls Tryz.prog 9 #[.pointer (some ⟨bt, 0, none⟩), .pointer (some ⟨bt2, 0, none⟩), gv] w fun e w' => ∃ (o : Value) (l : List (StepP × Value)), e = .returned o ∧ w'.ownsRow w.heap.size 40 7 o l.length (l.flatMap eSt) ∧ l.map Prod.fst = planN xs ys (topsN grafts) ∧ (∀ s ∈ l, Lies w' 70 5 eCSN s.2 s.1.items) ∧ Below w.heap.size w w' := by
  refine callsIn_wide.1 (?_ : CallsIn Fence.wide 9 _ _ _ _ _)
  refine callsIn_of_wp_marks Tryz.func9 rfl trivial ?_ rfl
  simp only [Tryz.ntmps9, List.size_toArray, List.length_cons, List.length_nil, Nat.reduceAdd, Nat.reduceSub, Array.replicate_succ, Array.replicate_zero, List.push_toArray, List.append_toArray, List.nil_append, List.cons_append]
  have HTP := Lib.hid (tops_any w gv grafts hgz hg hgl)
  have htpz : ∀ p ∈ topsN grafts, p.size ≤ 90000 := fun p hp => hgz p ((List.mem_filter.1 hp).1)
  have htl : (topsN grafts).length ≤ 1000 := Nat.le_trans (List.length_filter_le _ _) hgl
  obtain ⟨TP, hTP⟩ : ∃ TP, topsN grafts = TP := ⟨_, rfl⟩
  rw [hTP] at htpz htl HTP
  rw [hTP]
  have HX := Lib.hid (And.intro hxd hyd)
  have HXP := Lib.hid (And.intro hxp (And.intro hyp htpz))
  have HT := Lib.hid (And.intro h1 h2)
  obtain ⟨Ag, cg, rfl, -, -, -⟩ := hg
  clear h1 h2 hxp hyp hgz hxd hyd hTP htpz
  gi_wp2
  refine ⟨trivial, (callsIn_wide.2 HTP.out).mono ?_⟩
  rintro e w1 ⟨u, rfl, ho, hb1⟩
  obtain ⟨nu, hnu⟩ : ∃ n, TP.length = n := ⟨_, rfl⟩
  rw [hnu] at ho
  obtain ⟨Au, cu, rfl, -, -, -⟩ := SlV_of_any ho
  clear hnu
  obtain ⟨gm, hgm⟩ : ∃ n, w1.heap.size = n := ⟨_, rfl⟩
  obtain ⟨U, hU⟩ : ∃ U, w1.alloc (.cells #[.pointer (some ⟨bt, 0, none⟩), .pointer (some ⟨bt2, 0, none⟩), .slice Au nu cu, .slice none 0 0] 76) = U := ⟨_, rfl⟩
  obtain ⟨T, hT⟩ : ∃ n, U.heap.size = n := ⟨_, rfl⟩
  obtain ⟨V, hV⟩ : ∃ V, U.alloc (.cells #[.pointer (some ⟨gm, 0, none⟩)] 73) = V := ⟨_, rfl⟩
  have hBU : Blk U gm 76 #[.pointer (some ⟨bt, 0, none⟩), .pointer (some ⟨bt2, 0, none⟩), .slice Au nu cu, .slice none 0 0] := by rw [← hU, ← hgm]; exact Blk.new _ _ _
  have hbU : Below w1.heap.size w1 U := by rw [← hU]; exact (Below.refl _ _).alloc (Nat.le_refl _) _
  have hbV0 : Below U.heap.size U V := by rw [← hV]; exact (Below.refl _ _).alloc (Nat.le_refl _) _
  have hbV : Below w1.heap.size w1 V := hbU.trans (hbV0.mono hbU.size)
  have hBT : Blk V T 73 #[.pointer (some ⟨gm, 0, none⟩)] := by rw [← hV, ← hT]; exact Blk.new _ _ _
  have hbW : Below w.heap.size w V := hb1.trans (hbV.mono hb1.size)
  have hM0 : MkrAt w.heap.size gm bt bm1 bt2 bm2 (.slice Au nu cu) TP xs ys [] V := ⟨⟨_, hBU.below hbV0 hBU.lt, ⟨rfl, .inl ⟨rfl, rfl⟩⟩⟩, fun s hs => by simp at hs, (Lies.of_own ho sE_lenP (by decide)).below hbV, HT.out.1.below hbW, HT.out.2.below hbW⟩
  have HGM := Lib.hid (show w.heap.size ≤ gm by rw [← hgm]; exact hb1.size)
  have HPT := Lib.hid (paths_any V w.heap.size gm bt bm1 bt2 bm2 (.slice Au nu cu) TP xs ys [] hM0 hxl hyl htl HXP.out.1 HXP.out.2.1 HXP.out.2.2)
  have HV := Lib.hid (And.intro hM0 (And.intro hbW hBT))
  have q5 := hBT.cell 0
  simp only [List.getElem?_toArray, List.getElem?_cons_succ, List.getElem?_cons_zero] at q5
  clear hBU hbU hbV0 hbV hBT hbW hM0 ho hb1 HTP
  gi_wp2
  refine ⟨trivial, (callsIn_wide.2 HPT.out).mono ?_⟩
  rintro e w2 ⟨sm, rfl, hsm, hS, hb2⟩
  obtain ⟨F, hF⟩ : ∃ F, flagsN xs ys TP = F := ⟨_, rfl⟩
  rw [hF] at hS
  have hFe : F = (pathsN xs ys TP).map fun p => (p, isTop TP p) := by rw [← hF, flagsN_eq]
  have hFl : F.length ≤ 3000 := by
    rw [hFe, List.length_map]
    have := pathsS_len (xs.map Prod.fst ++ ys.map Prod.fst ++ TP)
    rw [List.length_append, List.length_append, List.length_map, List.length_map] at this
    unfold pathsN
    omega
  have HFL := Lib.hid (And.intro hFl (show ∀ e ∈ F, e.1.size ≤ 90000 ∧ e.2 = isTop TP e.1 from fun e he => by
    rw [← hF] at he
    obtain ⟨h1, h2⟩ := (flagsN_mem xs ys TP e).1 he
    refine ⟨?_, h2⟩
    rcases List.mem_append.1 h1 with h | h
    · rcases List.mem_append.1 h with h | h
      · obtain ⟨z, hz, e'⟩ := List.mem_map.1 h
        rw [← e']; exact HXP.out.1 z hz
      · obtain ⟨z, hz, e'⟩ := List.mem_map.1 h
        rw [← e']; exact HXP.out.2.1 z hz
    · exact HXP.out.2.2 _ h))
  have HFE := Lib.hid (show F.map Prod.fst = pathsN xs ys TP by rw [hFe, List.map_map]; exact List.map_id _)
  have HBK := Lib.hid (srtBackSB_any w2 sm F hS (by omega))
  have HR := Lib.hid (And.intro (⟨[], rfl, HV.out.1.below hb2⟩ : ∃ l : List (StepP × Value), l.map Prod.fst = [] ∧ MkrAt w.heap.size gm bt bm1 bt2 bm2 (.slice Au nu cu) TP xs ys l w2) (And.intro (HV.out.2.1.trans (hb2.mono HV.out.2.1.size)) (And.intro (HV.out.2.2.below hb2 HV.out.2.2.lt) (And.intro hS True.intro))))
  clear hS hb2 hsm hF hFe hFl HV HPT q5
  gi_wp2
  refine ⟨trivial, (callsIn_wide.2 HBK.out).mono ?_⟩
  rintro e w6 ⟨gb, v, rfl, hgb, hL, hge, hvb, hb6⟩
  have hgl := hgb.lt
  obtain ⟨l1, hl1, hM1⟩ := HR.out.1
  have hB6 := HR.out.2.1.trans (hb6.mono HR.out.2.1.size)
  have hQ6 : QoI w.heap.size gm bt bm1 bt2 bm2 (.slice Au nu cu) TP xs ys [] (awayN xs ys TP) T sm F gb v F.reverse [] w6 := ⟨⟨l1, by rw [hl1]; simp, hM1.below hb6⟩, HR.out.2.2.1.below hb6 HR.out.2.2.1.lt, hgl, hgb, hL, HR.out.2.2.2.1.below hb6⟩
  have hz6 := hB6.size
  clear hM1 hl1 hb6 hge
  gi_wp2
  refine wpIn_rangeFunc_tell (Mine := fun _ => False) (fun _ h => h.elim) rfl (by omega) (gf := 151) (lb := #[.pointer (some ⟨gb, 0, none⟩)]) rfl trivial (enters_of Tryz.func151 (by kernel_rfl) rfl)
    (toldSB_tells 8 (by omega) gb v F.reverse w6 hgb hL (by have := HFL.out.1; simp; omega)) KeepIt.trans (keepIt_b hgl hvb) (Below.refl _ _) (fun _ => rfl)
    (fun pre W => QoI w.heap.size gm bt bm1 bt2 bm2 (.slice Au nu cu) TP xs ys [] (awayN xs ys TP) T sm F gb v F.reverse pre W ∧ Below w.heap.size w W)
    (fun c pre W => False)
    (OwnM.of_none (OwnFrom.and (Own.from (QoI.own w.heap.size gm bt bm1 bt2 bm2 (.slice Au nu cu) TP xs ys [] (awayN xs ys TP) T sm F gb v F.reverse) _) (ownFrom_below (Nat.le_refl _) (by omega))))
    (fun c => OwnM.of_none (fun _ _ _ _ hs _ _ => hs.elim))
    ⟨hQ6, hB6⟩
    ?a1 ?assign1 ?body1 ?done1 ?stop1
  case assign1 =>
    rintro l x W K hK
    gi_wp2
    exact hK
  case body1 =>
    rintro l pre x W ⟨⟨⟨l1, hl1, hM⟩, hT, hrest⟩, hB⟩ hTl
    have hx0 : 0 < (F.reverse).length := by obtain ⟨r, hr⟩ := hTl; rw [← hr]; simp; omega
    have hpl : pre.length + 1 ≤ F.length := by obtain ⟨r, hr⟩ := hTl; have := congrArg List.length hr; simp at this; omega
    have hxm : x ∈ F := by
      obtain ⟨r, hr⟩ := hTl
      have : x ∈ F.reverse := by rw [← hr]; simp
      simpa using this
    have hq := HFL.out.2 x hxm
    have hl0 := HFL.out.1
    have hll : l1.length ≤ 100000 := by
      have h1 := congrArg List.length hl1
      have h2 := List.length_filterMap_le (awayN xs ys TP) (pre.map Prod.fst)
      rw [List.length_map, List.length_append] at h1
      rw [List.length_map] at h2
      have h3 := Nat.le_refl (0 : Nat)
      simp only [List.length_nil] at h1; omega
    have q5 := hT.cell 0
    simp only [List.getElem?_toArray, List.getElem?_cons_succ, List.getElem?_cons_zero] at q5
    have HPU := Lib.hid (away_any W w.heap.size gm bt bm1 bt2 bm2 (.slice Au nu cu) TP xs ys l1 x.1 x.2 hM HGM.out hll hxl hyl htl hq.1 HX.out.1 HX.out.2 hq.2.symm)
    have HR2 := Lib.hid (And.intro (And.intro hT hrest) (And.intro hl1 (And.intro hB hx0)))
    clear hT hrest hl1 hM hB hTl hx0 hpl hxm hq hl0 hll
    obtain ⟨q, tb⟩ := x
    simp only at HPU
    gi_wp2
    refine ((callsIn_wide.2 HPU.out).inRound l).mono ?_
    intro e w7 hp
    have HF := Lib.hid (QoI.step (x := (q, tb)) HR2.out.1 HR2.out.2.1 hp HR2.out.2.2.2)
    obtain ⟨rfl, -⟩ := hp
    clear q5
    gi_wp2
    exact ⟨HF.out.1, HF.out.2.1, HF.out.2.2.1, HR2.out.2.2.1.trans HF.out.2.2.2⟩
  case done1 =>
    rintro D zs1 W hD hzs ⟨⟨⟨l1, hl1, hM⟩, hT, hrest⟩, hB⟩ hK
    have hz : zs1 = F.reverse := hzs
    subst hz
    have hD0 : w.heap.size ≤ D := by omega
    have hS := hrest.2.2.2
    have HALL := Lib.hid (srtAllSB_any W sm F hS)
    obtain ⟨L1, hL1⟩ : ∃ L1, [] ++ (F.reverse.map Prod.fst).filterMap (awayN xs ys TP) = L1 := ⟨_, rfl⟩
    rw [hL1] at hl1
    have HL0 := Lib.hid (show L1.length ≤ F.length from by
      rw [← hL1, List.nil_append]
      have := List.length_filterMap_le (awayN xs ys TP) (F.reverse.map Prod.fst)
      rw [List.length_map, List.length_reverse] at this
      exact this)
    have HL1 := Lib.hid hL1
    have HR := Lib.hid (And.intro (⟨l1, hl1, hM⟩ : ∃ l, l.map Prod.fst = L1 ∧ MkrAt w.heap.size gm bt bm1 bt2 bm2 (.slice Au nu cu) TP xs ys l W) (And.intro hB (And.intro hT (And.intro hS hK))))
    clear hl1 hM hB hT hrest hK hS hgb hL hvb hQ6 hB6 hgl hz6 hzs hD hL1
    gi_wp2
    refine ⟨trivial, (callsIn_wide.2 HALL.out).mono ?_⟩
    rintro e w6 ⟨gb, v, rfl, hgb, hL, hge, hvb, hb6⟩
    have hgl := hgb.lt
    obtain ⟨l1, hl1, hM1⟩ := HR.out.1
    have hB6 := HR.out.2.1.trans (hb6.mono HR.out.2.1.size)
    have hQ6 : QoI w.heap.size gm bt bm1 bt2 bm2 (.slice Au nu cu) TP xs ys L1 (comeN xs ys TP) T sm F gb v F [] w6 := ⟨⟨l1, by rw [hl1]; simp, hM1.below hb6⟩, HR.out.2.2.1.below hb6 HR.out.2.2.1.lt, hgl, hgb, hL, HR.out.2.2.2.1.below hb6⟩
    have hz6 := hB6.size
    have hK6 : w6.heap[D]? = some (Obj.deferred (some [])) := (hb6.block D (Array.getElem?_eq_some_iff.1 HR.out.2.2.2.2).1).trans HR.out.2.2.2.2
    have hD6 : D < w6.heap.size := (Array.getElem?_eq_some_iff.1 hK6).1
    clear hM1 hl1 hb6 hge
    gi_wp2
    refine wpIn_rangeFunc_tell (Mine := fun _ => False) (fun _ h => h.elim) rfl (by omega) (gf := 151) (lb := #[.pointer (some ⟨gb, 0, none⟩)]) rfl trivial (enters_of Tryz.func151 (by kernel_rfl) rfl)
      (toldSB_tells 8 (by omega) gb v F w6 hgb hL (by have := HFL.out.1; simp; omega)) KeepIt.trans (keepIt_b hgl hvb) (Below.refl _ _) (fun _ => rfl)
      (fun pre W => QoI w.heap.size gm bt bm1 bt2 bm2 (.slice Au nu cu) TP xs ys L1 (comeN xs ys TP) T sm F gb v F pre W ∧ Below w.heap.size w W ∧ W.heap[D]? = some (Obj.deferred (some [])))
      (fun c pre W => False)
      (OwnM.of_none (OwnFrom.and (Own.from (QoI.own w.heap.size gm bt bm1 bt2 bm2 (.slice Au nu cu) TP xs ys L1 (comeN xs ys TP) T sm F gb v F) _) (OwnFrom.and (ownFrom_below (Nat.le_refl _) (by omega)) (ownFrom_put hD6))))
      (fun c => OwnM.of_none (fun _ _ _ _ hs _ _ => hs.elim))
      ⟨hQ6, hB6, hK6⟩
      ?a2 ?assign2 ?body2 ?done2 ?stop2
    case assign2 =>
      rintro l x W K hK
      gi_wp2
      exact hK
    case body2 =>
      rintro l pre x W ⟨⟨⟨l1, hl1, hM⟩, hT, hrest⟩, hB, hKD⟩ hTl
      have hx0 : 0 < (F).length := by obtain ⟨r, hr⟩ := hTl; rw [← hr]; simp; omega
      have hpl : pre.length + 1 ≤ F.length := by obtain ⟨r, hr⟩ := hTl; have := congrArg List.length hr; simp at this; omega
      have hxm : x ∈ F := by
        obtain ⟨r, hr⟩ := hTl
        have : x ∈ F := by rw [← hr]; simp
        simpa using this
      have hq := HFL.out.2 x hxm
      have hl0 := HFL.out.1
      have hll : l1.length ≤ 100000 := by
        have h1 := congrArg List.length hl1
        have h2 := List.length_filterMap_le (comeN xs ys TP) (pre.map Prod.fst)
        rw [List.length_map, List.length_append] at h1
        rw [List.length_map] at h2
        have h3 := HL0.out
        omega
      have q5 := hT.cell 0
      simp only [List.getElem?_toArray, List.getElem?_cons_succ, List.getElem?_cons_zero] at q5
      have HPU := Lib.hid (come_any W w.heap.size gm bt bm1 bt2 bm2 (.slice Au nu cu) TP xs ys l1 x.1 x.2 hM HGM.out hll hxl hyl htl hq.1 HX.out.1 HX.out.2 hq.2.symm)
      have HR2 := Lib.hid (And.intro (And.intro hT hrest) (And.intro hl1 (And.intro hB hx0)))
      have HR4 := Lib.hid hKD
      clear hKD
      clear hT hrest hl1 hM hB hTl hx0 hpl hxm hq hl0 hll
      obtain ⟨q, tb⟩ := x
      simp only at HPU
      gi_wp2
      refine ((callsIn_wide.2 HPU.out).inRound l).mono ?_
      intro e w7 hp
      have HF := Lib.hid (QoI.step (x := (q, tb)) HR2.out.1 HR2.out.2.1 hp HR2.out.2.2.2)
      obtain ⟨rfl, -⟩ := hp
      have HF2 := Lib.hid (show w7.heap[D]? = some (Obj.deferred (some [])) from HF.out.1.same D _ HR4.out rfl)
      clear q5
      gi_wp2
      exact ⟨HF.out.1, HF.out.2.1, HF.out.2.2.1, HR2.out.2.2.1.trans HF.out.2.2.2, HF2.out⟩
    case done2 =>
      rintro D2 zs2 W hD hzs ⟨⟨⟨l1, hl1, hM⟩, hT, hrest⟩, hB, hKD⟩ hK
      have hz : zs2 = F := hzs
      subst hz
      have hDl : D < W.heap.size := (Array.getElem?_eq_some_iff.1 hKD).1
      have hDl2 : D2 < W.heap.size := (Array.getElem?_eq_some_iff.1 hK).1
      have HDD := Lib.hid (show D ≠ D2 ∧ w.heap.size ≤ D ∧ w.heap.size ≤ D2 by refine ⟨?_, ?_, ?_⟩ <;> omega)
      obtain ⟨o, hBm, ho⟩ := hM.box
      have q5 := hT.cell 0
      have z3 := hBm.cell 3
      simp only [List.getElem?_toArray, List.getElem?_cons_succ, List.getElem?_cons_zero] at q5 z3
      have HF := Lib.hid (And.intro ho (And.intro hB (And.intro hKD (And.intro hK (And.intro hl1 hM.items)))))
      clear hBm ho hB hKD hK hl1 hM hT hrest hgb hL hvb hQ6 hB6 hgl hz6 hzs hD hK6 hD6 hDl hDl2
      gi_wp2
      have hK10 : (W.putObj D2 (.deferred none)).heap[D]? = some (Obj.deferred (some [])) := (World.putObj_heap_other HDD.out.1).trans HF.out.2.2.1
      have hg1 := grownBy_putObj' W D2 (.deferred none)
      have hg2 := grownBy_putObj' (W.putObj D2 (.deferred none)) D (.deferred none)
      have hr1 : ∀ r, some D2 = some r → ∃ o : Obj, W.heap[r]? = some o ∧ o.isCells = false := fun r e => by cases (e : some D2 = some r); exact ⟨_, HF.out.2.2.2.1, rfl⟩
      have hr2 : ∀ r, some D = some r → ∃ o : Obj, (W.putObj D2 (.deferred none)).heap[r]? = some o ∧ o.isCells = false := fun r e => by cases (e : some D = some r); exact ⟨_, hK10, rfl⟩
      refine ⟨by simp, .inl ⟨_, _, rfl, run_takeDeferred HF.out.2.2.2.1, ?_⟩⟩
      refine ⟨by simp, .inl ⟨_, _, rfl, run_takeDeferred hK10, ?_⟩⟩
      refine ⟨_, results_tmp rfl _ _ _, ⟨o, l1, rfl, own_ownF (own_ownF HF.out.1 hg1 hr1) hg2 hr2, ?_, fun s hs => ((HF.out.2.2.2.2.2 s hs).ownF hg1 hr1).ownF hg2 hr2, ?_⟩⟩
      · rw [HF.out.2.2.2.2.1, ← HL1.out, List.nil_append, List.map_reverse, HFE.out]
        rfl
      · exact (HF.out.2.1.trans (belowK_b (w := w) (Nat.le_refl _) W D2 _ (.deferred none) HDD.out.2.2 HF.out.2.2.2.1 rfl rfl)).trans (belowK_b (w := w) (Nat.le_refl _) _ D _ (.deferred none) HDD.out.2.1 hK10 rfl rfl)
    case stop2 =>
      rintro D' c pre W hD hSp h
      exact h.elim
  case stop1 =>
    rintro D' c pre W hD hSp h
    exact h.elim
end Go.Proofs.YtmpgmgjokliceaaGreatDoor
/- plan.Changes: what a plan puts, path by path. -/
set_option linter.unusedVariables false
set_option linter.unusedSimpArgs false
namespace Go.Proofs.YtmpgmgjokliceaaGreatDoor
open Go Go.RowKit
open Sw
theorem infoCg : (Tryz.prog.info? 46).map (fun i => (i.zero, i.size, i.bytes)) = some (some (.agg #[.string ⟨#[]⟩, .int .i64 0, .int .i64 0, .int .u32 0, .string ⟨#[]⟩]), 5, 56) := by kernel_rfl
def cgOf (l : List (StepP × Value)) : List NE := l.map fun s => (s.1.path, s.1.node)
/-- a row of steps, after an append to a row of changes -/
theorem own_cg {V X : World} {base base2 : Nat} {u v : Value} {n m : Nat} {xs ys : List Value} (ho : V.ownsRow base 46 5 u n xs) (hg : V.grownBy X u.ownBlock) (h : V.ownsRow base2 40 7 v m ys) : X.ownsRow base2 40 7 v m ys :=
  h.kept hg (by
    rcases h.2 with ⟨rfl, _⟩ | ⟨g', cap, cur, rfl, _, hg', _⟩
    · exact .inl rfl
    · right
      intro he
      exact own_ne_blk ho (hg' : Blk V g' _ cur) (by decide) (by simpa [Value.ownBlock] using he.symm))
set_option maxRecDepth 100000 in
set_option maxHeartbeats 4000000 in
theorem changes_any (w : World) (bt bm1 bt2 bm2 : Nat) (xs ys : List NE) (h1 : TreeAt w bt bm1 xs) (h2 : TreeAt w bt2 bm2 ys) (hxl : xs.length ≤ 1000) (hyl : ys.length ≤ 1000) (hxp : ∀ e ∈ xs, e.1.size ≤ 90000) (hyp : ∀ e ∈ ys, e.1.size ≤ 90000) (hxd : ∀ e ∈ xs, e.2.data.size ≤ maxLen) (hyd : ∀ e ∈ ys, e.2.data.size ≤ maxLen) :
    Calls Tryz.prog 14 #[.pointer (some ⟨bt, 0, none⟩), .pointer (some ⟨bt2, 0, none⟩)] w fun e w' => ∃ (o : Value), e = .returned o ∧ w'.ownsRow w.heap.size 46 5 o ((planN xs ys []).map fun s => (s.path, s.node)).length (((planN xs ys []).map fun s => (s.path, s.node)).flatMap eCSN) ∧ Below w.heap.size w w' := by
  have HO := Lib.hid (planOf_any w bt bm1 bt2 bm2 (.slice none 0 0) [] xs ys h1 h2 ⟨none, 0, rfl, Nat.le_refl _, by simp [maxLen], SlOf.nil _ _ _ _⟩ hxl hyl (by simp) hxp hyp (by simp) hxd hyd)
  obtain ⟨P, hP⟩ : ∃ P, planN xs ys [] = P := ⟨_, rfl⟩
  rw [show topsN [] = [] from rfl, hP] at HO
  rw [hP]
  have hPl : P.length ≤ 20000 := by
    rw [← hP]
    unfold planN
    rw [List.length_append]
    have h1 := List.length_filterMap_le (awayN xs ys []) (pathsN xs ys []).reverse
    have h2 := List.length_filterMap_le (comeN xs ys []) (pathsN xs ys [])
    have h3 : (pathsN xs ys []).length ≤ 2000 := by
      have := pathsS_len (xs.map Prod.fst ++ ys.map Prod.fst ++ [])
      rw [List.length_append, List.length_append, List.length_map, List.length_map, List.length_nil] at this
      unfold pathsN
      omega
    rw [List.length_reverse] at h1
    omega
  have HPL := Lib.hid hPl
  clear h1 h2 hxp hyp hxd hyd hP hPl
  go_enter Tryz.func14, Tryz.ntmps14
  go_wp2_with fail
  refine HO.out.mono ?_
  rintro e w1 ⟨o, l, rfl, ho, hl, hit, hb1⟩
  have HIT := Lib.hid (fun s hs => (by obtain ⟨A, c, e, _⟩ := hit s hs; exact ⟨A, _, c, e⟩ : ∃ A n c, s.2 = .slice A n c) : ∀ s ∈ l, ∃ A n c, s.2 = .slice A n c)
  clear hit
  obtain ⟨N, hN⟩ : ∃ N, l.length = N := ⟨_, rfl⟩
  have hNb : N ≤ 20000 := by rw [← hN, ← List.length_map (f := Prod.fst), hl]; exact HPL.out
  rw [hN] at ho
  obtain ⟨As, cs, rfl, -, -, -⟩ := SlV_of_any ho
  have HW1 := Lib.hid (And.intro ho hb1)
  have HN := Lib.hid hN
  have HE := Lib.hid (show P.map (fun s => (s.path, s.node)) = cgOf l by rw [← hl, List.map_map]; rfl)
  clear ho hl hb1 hN HO
  go_wp2_with fail
  go_loopw [4, 11] (fun ov iv wr => ∃ i : Nat, i ≤ N ∧ iv = .int .i64 i ∧ wr.ownsRow w.heap.size 46 5 ov (cgOf (l.take i)).length ((cgOf (l.take i)).flatMap eCSN) ∧ wr.ownsRow w.heap.size 40 7 (.slice As N cs) N (l.flatMap eSt) ∧ Below w.heap.size w wr) (fun _ iv _ => N - (intOf iv).toNat)
  case atStart => exact ⟨0, Nat.zero_le _, rfl, World.ownsRow_nil _ _ _ _, HW1.out⟩
  case round =>
    obtain ⟨i, hi, rfl, ho, hs, hb⟩ := hrel
    by_cases hlt : i < N
    · have hiL : i < l.length := by have := HN.out; omega
      have hm : (cgOf (l.take i)).length = i := by unfold cgOf; rw [List.length_map, List.length_take]; omega
      rw [hm] at ho
      obtain ⟨Ao, co, rfl, -, -, -⟩ := SlV_of_any ho
      obtain ⟨A', c', hA, _, _, hso⟩ := (SlV.of_own (l := l) hs eSt_len (by decide) : SlV wr 7 eSt (.slice As N cs) l)
      rw [HN.out] at hA
      obtain ⟨rfl, rfl⟩ : As = A' ∧ cs = c' := by injection hA with e1 e2 e3; exact ⟨e1, e3⟩
      clear hA
      obtain ⟨b, off, rfl, hbb, hcs⟩ := hso (by omega)
      have c0 := hcs i hiL 0 (by omega)
      have c1 := hcs i hiL 1 (by omega)
      have c2 := hcs i hiL 2 (by omega)
      have c3 := hcs i hiL 3 (by omega)
      have c4 := hcs i hiL 4 (by omega)
      have c5 := hcs i hiL 5 (by omega)
      have c6 := hcs i hiL 6 (by omega)
      simp only [eSt, List.getElem?_cons_succ, List.getElem?_cons_zero, Nat.add_zero] at c0 c1 c2 c3 c4 c5 c6
      clear hcs hso
      have hi1 : (i : Int) < N := by omega
      have hst : cgOf (l.take (i + 1)) = cgOf (l.take i) ++ [(l[i].1.path, l[i].1.node)] := by
        unfold cgOf
        rw [List.take_succ_eq_append_getElem hiL, List.map_append]
        rfl
      obtain ⟨A6, n6, c6', e6⟩ := HIT.out _ (List.getElem_mem hiL)
      rw [e6] at c6
      clear e6
      obtain ⟨x, hx⟩ : ∃ x, l[i] = x := ⟨_, rfl⟩
      simp only [hx] at c0 c1 c2 c3 c4 c5 c6 hst
      clear hx
      obtain ⟨⟨p, ⟨ka, kb, kc, kd⟩, gr, its⟩, sv⟩ := x
      simp only at c0 c1 c2 c3 c4 c5 c6 hst
      have hba := (Below.refl wr.heap.size wr).alloc (Nat.le_refl _) (.cells #[.string p, .int .i64 ka, .int .i64 kb, .int .u32 kc, .string kd, .bool gr, .slice A6 n6 c6'] 40)
      have HST := Lib.hid (And.intro hst hm)
      have HR := Lib.hid (And.intro (own_kept ho hba) (And.intro (own_kept hs hba) (hb.trans (hba.mono hb.size))))
      obtain ⟨U, hU⟩ : ∃ U, wr.alloc (.cells #[.string p, .int .i64 ka, .int .i64 kb, .int .u32 kc, .string kd, .bool gr, .slice A6 n6 c6'] 40) = U := ⟨_, rfl⟩
      obtain ⟨nb, hnb⟩ : ∃ n, wr.heap.size = n := ⟨_, rfl⟩
      have hBN : Blk U nb 40 #[.string p, .int .i64 ka, .int .i64 kb, .int .u32 kc, .string kd, .bool gr, .slice A6 n6 c6'] := by rw [← hU, ← hnb]; exact Blk.new _ _ _
      rw [hU] at HR
      have n0 := hBN.cell 0
      have n1 := hBN.cell 1
      have n2 := hBN.cell 2
      have n3 := hBN.cell 3
      have n4 := hBN.cell 4
      simp only [List.getElem?_toArray, List.getElem?_cons_succ, List.getElem?_cons_zero] at n0 n1 n2 n3 n4
      have hbz : w.heap.size ≤ U.heap.size := HR.out.2.2.size
      clear hst hm ho hs hb hba hBN
      go_wp2_with (at_builtin; go_loud (refine wpList_app rfl _ _ 43 rfl w.heap.size 46 (.agg #[.string ⟨#[]⟩, .int .i64 0, .int .i64 0, .int .u32 0, .string ⟨#[]⟩]) 5 56 Tryz.underlying43 infoCg rfl (by decide) (.slice Ao i co) i _ rfl (HR.out.1.alloc _) U.heap.size 1 #[.string p, .int .i64 ka, .int .i64 kb, .int .u32 kc, .string kd] 46 rfl (Blk.new _ _ _) rfl (by simp [Value.oneCell']) (by omega) (by decide) (by simp; omega) _ rfl ?_; intro g cap w5 hown1 hgrow1 hat hlt1; have HA := Lib.hid (And.intro hown1 hgrow1)))
      go_roundw
      case rel => exact ⟨i + 1, by omega, by go_num, by rw [HST.out.1, List.length_append, HST.out.2, List.flatMap_append]; exact HA.out.1, own_cg (HR.out.1.alloc _) HA.out.2 (HR.out.2.1.alloc _), (HR.out.2.2.trans (((Below.refl _ _).alloc (Nat.le_refl _) _).mono hbz)).grown HA.out.2 (by simp; omega) (fun k hk => (HR.out.1.lt k hk).1)⟩
      case measure => simp [intOf]; omega
    · obtain rfl : i = N := by omega
      have htk : l.take i = l := List.take_of_length_le (by have := HN.out; omega)
      rw [htk] at ho
      obtain ⟨Ao, co, rfl, -, -, -⟩ := SlV_of_any ho
      have HF := Lib.hid (And.intro ho hb); clear ho hb htk hs
      go_wp2_with fail
      go_ret
      exact ⟨_, rfl, by rw [HE.out]; exact HF.out.1, HF.out.2⟩
end Go.Proofs.YtmpgmgjokliceaaGreatDoor
/- plan.Steps: how much a plan does. -/
set_option linter.unusedVariables false
set_option linter.unusedSimpArgs false
namespace Go.Proofs.YtmpgmgjokliceaaGreatDoor
open Go Go.RowKit
open Sw
/-- how much steps do -/
def stepsN (l : List StepP) : Nat := (l.map fun s => 1 + if s.graft = true then s.items.length else 0).sum
theorem stepsN_app (a b : List StepP) : stepsN (a ++ b) = stepsN a + stepsN b := by unfold stepsN; rw [List.map_append, List.sum_append]
set_option maxRecDepth 100000 in
set_option maxHeartbeats 4000000 in
theorem planSteps_any (w : World) (v : Value) (l : List (StepP × Value)) (h : SlV w 7 eSt v l) (hl : l.length ≤ 100000) (hit : ∀ s ∈ l, s.1.items.length ≤ 1000) (hlie : ∀ s ∈ l, ∃ A c, s.2 = .slice A s.1.items.length c) :
    Calls Tryz.prog 15 #[v] w fun e w' => e = .returned (.int .i64 (stepsN (l.map Prod.fst))) ∧ Below w.heap.size w w' := by
  obtain ⟨A, c, rfl, hc1, hc2, hsl⟩ := h
  obtain ⟨n, hn⟩ : ∃ n, l.length = n := ⟨_, rfl⟩
  rw [hn] at hc1 hl ⊢
  unfold maxLen at hc2
  have HL := Lib.hid hn; clear hn
  have HS := Lib.hid hsl; clear hsl
  have HI := Lib.hid (And.intro hit hlie); clear hit hlie
  go_enter Tryz.func15, Tryz.ntmps15
  go_wp2_with fail
  go_loopw [2, 7] (fun nv iv wr => ∃ i m : Nat, i ≤ n ∧ iv = .int .i64 i ∧ nv = .int .i64 m ∧ m = stepsN ((l.take i).map Prod.fst) ∧ m ≤ i * 1001 ∧ Below w.heap.size w wr) (fun _ iv _ => n - (intOf iv).toNat)
  case atStart => exact ⟨0, 0, Nat.zero_le _, rfl, rfl, rfl, Nat.le_refl _, Below.refl _ _⟩
  case round =>
    obtain ⟨i, m, hi, rfl, rfl, hm, hmb, hb⟩ := hrel
    by_cases hlt : i < n
    · have hiL : i < l.length := by have := HL.out; omega
      obtain ⟨b, off, rfl, hbb, hcs⟩ := (HS.out.below hb (Nat.le_refl _)) (by omega)
      have c0 := hcs i hiL 0 (by omega)
      have c1 := hcs i hiL 1 (by omega)
      have c2 := hcs i hiL 2 (by omega)
      have c3 := hcs i hiL 3 (by omega)
      have c4 := hcs i hiL 4 (by omega)
      have c5 := hcs i hiL 5 (by omega)
      have c6 := hcs i hiL 6 (by omega)
      simp only [eSt, List.getElem?_cons_succ, List.getElem?_cons_zero, Nat.add_zero] at c0 c1 c2 c3 c4 c5 c6
      clear hcs
      have hi1 : (i : Int) < n := by omega
      have hst : stepsN ((l.take (i + 1)).map Prod.fst) = m + (1 + if l[i].1.graft = true then l[i].1.items.length else 0) := by
        rw [List.take_succ_eq_append_getElem hiL, List.map_append, stepsN_app, ← hm]
        simp [stepsN]
      have hit := HI.out.1 _ (List.getElem_mem hiL)
      obtain ⟨A6, c6', hA6⟩ := HI.out.2 _ (List.getElem_mem hiL)
      rw [hA6] at c6
      clear hA6
      obtain ⟨x, hx⟩ : ∃ x, l[i] = x := ⟨_, rfl⟩
      simp only [hx] at c0 c1 c2 c3 c4 c5 c6 hst hit
      clear hx
      obtain ⟨⟨p, ⟨ka, kb, kc, kd⟩, gr, its⟩, sv⟩ := x
      simp only at c0 c1 c2 c3 c4 c5 c6 hst hit
      obtain ⟨k, hk⟩ : ∃ k, its.length = k := ⟨_, rfl⟩
      simp only [hk] at c6 hst hit
      have HST := Lib.hid hst
      have HB := Lib.hid (hb.alloc hb.size (.cells #[.string p, .int .i64 ka, .int .i64 kb, .int .u32 kc, .string kd, .bool gr, .slice A6 k c6'] 40))
      clear hst hb hm hk
      have w1 : IntKind.i64.wrap ((m : Int) + 1) = ((m + 1 : Nat) : Int) := by
        have := IntWalk.i64_in ((m : Int) + 1) (by omega)
        rw [this]; omega
      have w2 : IntKind.i64.wrap (((m + 1 : Nat) : Int) + k) = ((m + 1 + k : Nat) : Int) := by
        have := IntWalk.i64_in (((m + 1 : Nat) : Int) + k) (by omega)
        rw [this]; omega
      cases gr with
      | true =>
        go_wp2_with fail
        go_roundw
        case rel => exact ⟨i + 1, m + 1 + k, by omega, by go_num, by go_num, by rw [HST.out]; simp; omega, by omega, HB.out⟩
        case measure => simp [intOf]; omega
      | false =>
        go_wp2_with fail
        go_roundw
        case rel => exact ⟨i + 1, m + 1, by omega, by go_num, by go_num, by rw [HST.out]; simp, by omega, HB.out⟩
        case measure => simp [intOf]; omega
    · obtain rfl : i = n := by omega
      have htk : l.take i = l := List.take_of_length_le (by have := HL.out; omega)
      rw [htk] at hm
      have HF := Lib.hid (And.intro hm hb); clear hm hb htk
      go_wp2_with fail
      go_ret
      rw [← HF.out.1]
      exact ⟨rfl, HF.out.2⟩
end Go.Proofs.YtmpgmgjokliceaaGreatDoor
/- The reference's parts of trees: in, Part of layer 31; Inside, is of layer 32. -/
set_option linter.unusedVariables false
set_option linter.unusedSimpArgs false
namespace Go.Proofs.YtmpgmgjokliceaaGreatDoor
open Go Go.RowKit
open Sw
theorem awayT_eq (p : ByteArray) (e : NE) : awayT p e = !(decide (p = e.1) || inS (upsS e.1) p) := by
  unfold awayT
  by_cases h : p = e.1
  · simp [h]
  · simp [h, Ne.symm h]
set_option maxRecDepth 100000 in
set_option maxHeartbeats 2000000 in
theorem in31_any (w : World) (p q : ByteArray) (hq : q.size ≤ 90000) :
    Calls Tryz.prog 98 #[.string p, .string q] w fun e w' => e = .returned (.bool (decide (p = q) || inS (upsS q) p)) ∧ Below w.heap.size w w' := by
  have HU := Lib.hid (ref16Under_any w p q hq)
  have hse := str_eq p q
  obtain ⟨R, hR⟩ : ∃ R, inS (upsS q) p = R := ⟨_, rfl⟩
  rw [hR]
  rw [hR] at HU
  clear hR hq
  by_cases h : p = q
  · rw [decide_eq_true h] at hse
    have HX := Lib.hid (show (decide (p = q) || R) = true by rw [decide_eq_true h]; rfl)
    have HSE := Lib.hid hse
    subst h
    go_enter Tryz.func98, Tryz.ntmps98
    go_wp2_with fail
    go_ret
    refine ⟨?_, Below.refl _ _⟩
    first | rfl | simp | (rw [decide_eq_true rfl]; rfl)
  · rw [decide_eq_false h] at hse
    have HX := Lib.hid (show (decide (p = q) || R) = R by rw [decide_eq_false h]; rfl)
    clear h
    go_enter Tryz.func98, Tryz.ntmps98
    go_wp2_with fail
    refine HU.out.mono ?_
    rintro e w1 ⟨rfl, hb⟩
    have HB := Lib.hid hb; clear hb
    go_wp2_with fail
    go_ret
    rw [HX.out]
    exact ⟨rfl, HB.out⟩
set_option maxRecDepth 100000 in
set_option maxHeartbeats 4000000 in
theorem part31_any (w : World) (v : Value) (l : List NE) (p : ByteArray) (h : SlV w 5 eCSN v l) (hl : l.length ≤ 1000) (hz : ∀ e ∈ l, e.1.size ≤ 90000) :
    Calls Tryz.prog 44 #[v, .string p] w fun e w' => ∃ r, e = .returned r ∧ OwnIt w' w.heap.size r (undT p l) ∧ Below w.heap.size w w' := by
  unfold undT
  have HZ := Lib.hid hz; clear hz
  obtain ⟨A, c, rfl, hc1, hc2, hsl⟩ := h
  obtain ⟨n, hn⟩ : ∃ n, l.length = n := ⟨_, rfl⟩
  rw [hn] at hc1 hl ⊢
  unfold maxLen at hc2
  have HL := Lib.hid hn; clear hn
  have HS := Lib.hid hsl; clear hsl
  go_enter Tryz.func44, Tryz.ntmps44
  go_wp2_with fail
  go_loopw [5, 10] (fun ov iv wr => ∃ i : Nat, i ≤ n ∧ iv = .int .i64 i ∧ OwnIt wr w.heap.size ov ((l.take i).filter fun e => !awayT p e) ∧ Below w.heap.size w wr) (fun _ iv _ => n - (intOf iv).toNat)
  case atStart => exact ⟨0, Nat.zero_le _, rfl, World.ownsRow_nil _ _ _ _, Below.refl _ _⟩
  case round =>
    obtain ⟨i, hi, rfl, ho, hb⟩ := hrel
    obtain ⟨A3, c3, rfl, -, -, -⟩ := SlV_of_any ho
    by_cases hlt : i < n
    · have hiL : i < l.length := by have := HL.out; omega
      obtain ⟨b, off, rfl, hbb, hcs⟩ := (HS.out.below hb (Nat.le_refl _)) (by omega)
      have c0 := hcs i hiL 0 (by omega)
      have c1 := hcs i hiL 1 (by omega)
      have c2 := hcs i hiL 2 (by omega)
      have c3' := hcs i hiL 3 (by omega)
      have c4 := hcs i hiL 4 (by omega)
      simp only [eCSN, List.getElem?_cons_succ, List.getElem?_cons_zero, Nat.add_zero] at c0 c1 c2 c3' c4
      clear hcs
      have hi1 : (i : Int) < n := by omega
      have hIN := Lib.hid (fun W => in31_any W p l[i].1 (HZ.out _ (List.getElem_mem hiL)))
      have haw : awayT p l[i] = !(decide (p = l[i].1) || inS (upsS l[i].1) p) := awayT_eq p _
      have htk : (l.take (i + 1)).filter (fun e => !awayT p e) = (l.take i).filter (fun e => !awayT p e) ++ [l[i]].filter (fun e => !awayT p e) := by rw [List.take_succ_eq_append_getElem hiL, List.filter_append]
      have hll : ((l.take i).filter fun e => !awayT p e).length ≤ 1000 := Nat.le_trans (List.length_filter_le _ _) (by rw [List.length_take]; omega)
      obtain ⟨x, hx⟩ : ∃ x, l[i] = x := ⟨_, rfl⟩
      simp only [hx] at hIN haw
      simp only [hx] at c0 c1 c2 c3' c4 htk
      obtain ⟨L, hLL⟩ : ∃ L, (l.take i).filter (fun e => !awayT p e) = L := ⟨_, rfl⟩
      rw [hLL] at htk hll ho
      rw [hLL]
      obtain ⟨m, hm⟩ : ∃ m, L.length = m := ⟨_, rfl⟩
      have hR1 : wr.ownsRow w.heap.size 70 5 (.slice A3 m c3) m (L.flatMap eCSN) := by have := ho; unfold OwnIt at this; rw [hm] at this; exact this
      rw [hm] at hll
      rw [hm]
      have HTK := Lib.hid (And.intro htk (And.intro hLL (And.intro hx hm)))
      have HR := Lib.hid (And.intro hR1 hb); clear htk hLL hx hm ho hR1
      have hgW : w.heap.size ≤ wr.heap.size := hb.size
      clear hb
      obtain ⟨B, hBB⟩ : ∃ B, (decide (p = x.1) || inS (upsS x.1) p) = B := ⟨_, rfl⟩
      rw [hBB] at haw
      simp only [hBB] at hIN
      have hba := (Below.refl wr.heap.size wr).alloc (Nat.le_refl _) (.cells #[.string x.1, .int .i64 x.2.kind, .int .i64 x.2.mode, .int .u32 x.2.time, .string x.2.data] 70)
      obtain ⟨V, hV⟩ : ∃ V, wr.alloc (.cells #[.string x.1, .int .i64 x.2.kind, .int .i64 x.2.mode, .int .u32 x.2.time, .string x.2.data] 70) = V := ⟨_, rfl⟩
      obtain ⟨N, hN⟩ : ∃ n, wr.heap.size = n := ⟨_, rfl⟩
      have hBN : Blk V N 70 #[.string x.1, .int .i64 x.2.kind, .int .i64 x.2.mode, .int .u32 x.2.time, .string x.2.data] := by rw [← hV, ← hN]; exact Blk.new _ _ _
      rw [hV] at hba
      have n0 := hBN.cell 0
      simp only [List.getElem?_toArray, List.getElem?_cons_succ, List.getElem?_cons_zero] at n0
      have HN := Lib.hid hBN
      have HBA := Lib.hid hba
      clear hba hBN hBB
      go_wp2_with fail
      refine (hIN.out V).mono ?_
      rintro e V2 ⟨rfl, hbV⟩
      have hb2 := HBA.out.trans (hbV.mono HBA.out.size)
      have hBN2 := HN.out.below hbV HN.out.lt
      have HV2 := Lib.hid (And.intro hb2 (own_kept HR.out.1 hb2))
      have hbW : w.heap.size ≤ V2.heap.size := by have := hb2.size; omega
      have n0 := hBN2.cell 0
      have n1 := hBN2.cell 1
      have n2 := hBN2.cell 2
      have n3 := hBN2.cell 3
      have n4 := hBN2.cell 4
      simp only [List.getElem?_toArray, List.getElem?_cons_succ, List.getElem?_cons_zero] at n0 n1 n2 n3 n4
      clear hbV hb2 hBN2 hIN
      cases B with
      | false =>
        have hf : [x].filter (fun e => !awayT p e) = [] := by simp [haw]
        have HF := Lib.hid (show OwnIt V2 w.heap.size (.slice A3 m c3) ((l.take (i + 1)).filter fun e => !awayT p e) from by
          rw [HTK.out.1, hf, List.append_nil]; unfold OwnIt; rw [HTK.out.2.2.2]; exact HV2.out.2)
        clear hf haw
        go_wp2_with fail
        go_roundw
        case rel => exact ⟨i + 1, by omega, by go_num, HF.out, HR.out.2.trans (HV2.out.1.mono HR.out.2.size)⟩
        case measure => simp [intOf]; omega
      | true =>
        have hf : [x].filter (fun e => !awayT p e) = [x] := by simp [haw]
        have HFX := Lib.hid hf; clear hf haw
        go_wp2_with (at_builtin; go_loud (refine wpList_app rfl _ _ 22 rfl w.heap.size 70 (.agg #[.string ⟨#[]⟩, .int .i64 0, .int .i64 0, .int .u32 0, .string ⟨#[]⟩]) 5 56 Tryz.underlying22 infoIt rfl (by decide) (.slice A3 m c3) m _ rfl (HV2.out.2.alloc _) V2.heap.size 1 #[.string x.1, .int .i64 x.2.kind, .int .i64 x.2.mode, .int .u32 x.2.time, .string x.2.data] 70 rfl (Blk.new _ _ _) rfl (by simp [Value.oneCell']) (by omega) (by decide) (by simp; omega) _ rfl ?_; intro g cap w5 hown1 hgrow1 hat hlt1; have HA := Lib.hid (And.intro hown1 hgrow1)))
        go_roundw
        case rel => exact ⟨i + 1, by omega, by go_num, by rw [HTK.out.1, HFX.out]; exact OwnIt.app HA.out.1 HTK.out.2.2.2, ((HR.out.2.trans (HV2.out.1.mono HR.out.2.size)).trans (((Below.refl _ _).alloc (Nat.le_refl _) _).mono hbW)).grown HA.out.2 (by simp; omega) (fun k hk => (HV2.out.2.lt k hk).1)⟩
        case measure => simp [intOf]; omega
    · obtain rfl : i = n := by omega
      have htk : l.take i = l := List.take_of_length_le (by have := HL.out; omega)
      rw [htk] at ho ⊢
      clear htk
      have HF := Lib.hid (And.intro ho hb); clear ho hb
      go_wp2_with fail
      go_ret
      exact ⟨_, rfl, HF.out.1, HF.out.2⟩
end Go.Proofs.YtmpgmgjokliceaaGreatDoor
