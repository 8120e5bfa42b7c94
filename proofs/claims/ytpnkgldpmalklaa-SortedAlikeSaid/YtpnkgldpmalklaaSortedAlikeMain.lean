/- The main walk of SortedAlike. -/
import Derived.Test.YtpnkgldpmalklaaSrtNil
import Derived.StillTailTactics
set_option linter.unusedVariables false
set_option linter.unusedSimpArgs false
namespace Go.Proofs.Ytpnkgldpmalklaa
open Go Go.RowKit Go.Shelf
open Sw
attribute [local go_sem] Oper.semAt_some
theorem SMapIS.grown2 {w w' : World} {b b2 : Nat} {xs ys : List EnS} (h : SMapIS w b xs) (h2 : SMapIS w b2 ys) (hg : w.grownBy w' (some b2)) (hne : b ≠ b2) : SMapIS w' b xs := by
  obtain ⟨⟨v, hb, ho⟩, hu, hk⟩ := h
  obtain ⟨v2, hb2, _⟩ := h2.row
  exact ⟨⟨v, hb.grown hg (by intro e; cases e; exact hne rfl), own_grown_typ ho hg hb2 (by decide)⟩, hu, hk⟩
/-- the result in a cell, of one bool -/
theorem res_cellB {P : Program} {fn : Func} {p : Tmp} {ty : TypeId} (h : fn.results = #[.cell p ty]) (tmps : Array Value) (w : World) (g : Nat) (t : TypeId) (v : Value)
    (hp : tmps.getD p undef = .pointer (some ⟨g, 0, none⟩)) (hg : Blk w g t #[v]) (hu : P.underlying ty = some .bool) : (results fn tmps).run P w = .ok v w := by
  have hp' : tmps[p]?.getD undef = .pointer (some ⟨g, 0, none⟩) := by simpa using hp
  have hc : w.cell? ⟨g, 0, none⟩ = some v := by have := hg.cell 0; simpa using this
  simp [results, h, hp', asAddr, loadVar, isAgg, run_underlying hu, run_load, hc]
/-- behind some rounds of the last loop: the keys told are dropped; the copy, and what was told of it, stand -/
def AlkI (R T N gb ba bc : Nat) (v : Value) (B0 : Nat) (u : Value) (xs pre : List EnS) (W : World) : Prop :=
  N < W.heap.size ∧ SMapIS W ba (dropA ordI pre xs) ∧ SMapIS W bc xs ∧ Own15 W B0 u xs ∧ Blk W T 25 #[.pointer (some ⟨ba, 0, none⟩)] ∧ Blk W R 4 #[.bool false] ∧ Blk W N 3 #[.int .i64 pre.length] ∧ Blk W gb 93 #[v] ∧ Lies W 100 2 eCIS v xs
theorem SMapIS.ownF {W W' : World} {b : Nat} {xs : List EnS} {row : Option Nat} (h : SMapIS W b xs) (hg : W.grownBy W' row) (hr : ∀ r, row = some r → ∃ o : Obj, W.heap[r]? = some o ∧ o.isCells = false) : SMapIS W' b xs := by
  obtain ⟨⟨v, hb, ho⟩, hu, hk⟩ := h
  exact ⟨⟨v, blk_ownF hb hg hr, own_ownF ho hg hr⟩, hu, hk⟩
theorem AlkI.own (R T N gb ba bc : Nat) (v : Value) (B0 : Nat) (u : Value) (xs : List EnS) : Own (AlkI R T N gb ba bc v B0 u xs) := fun pre A B row hs hg hr => by
  obtain ⟨h1, h2, h3, h4, h5, h6, h7, h8, h9⟩ := hs
  exact ⟨Nat.lt_of_lt_of_le h1 hg.size, h2.ownF hg hr, h3.ownF hg hr, own_ownF h4 hg hr, blk_ownF h5 hg hr, blk_ownF h6 hg hr, blk_ownF h7 hg hr, blk_ownF h8 hg hr, h9.ownF hg hr⟩
theorem alk_start {w w' : World} {R T gb ba bc : Nat} {v : Value} {B0 : Nat} {u : Value} {xs : List EnS} (hb : Below w.heap.size w w') (h2 : SMapIS w ba xs) (h3 : SMapIS w bc xs) (h4 : Own15 w B0 u xs) (h5 : Blk w T 25 #[.pointer (some ⟨ba, 0, none⟩)]) (h6 : Blk w R 4 #[.bool false]) (h8 : Blk w gb 93 #[v]) (h9 : Lies w 100 2 eCIS v xs) :
    AlkI R T w'.heap.size gb ba bc v B0 u xs [] (w'.alloc (.cells #[.int .i64 0] 3)) := by
  have hb' := hb.alloc hb.size (.cells #[.int .i64 0] 3)
  exact ⟨by simp, h2.below hb', h3.below hb', h4.below hb', h5.below hb' h5.lt, h6.below hb' h6.lt, Blk.new _ _ _, h8.below hb' h8.lt, h9.below hb'⟩
theorem AlkI.map1 {W : World} {R T N gb ba bc : Nat} {v : Value} {B0 : Nat} {u : Value} {xs pre : List EnS} (h : AlkI R T N gb ba bc v B0 u xs pre W) (x : Value := .int .i64 (pre.length + 1)) : SMapIS (W.setCell ⟨N, 0, none⟩ x) ba (dropA ordI pre xs) := by
  obtain ⟨h1, h2, h3, h4, h5, h6, h7, h8, h9⟩ := h
  obtain ⟨vb, hB, hob⟩ := h2.row
  exact h2.grown (grown_put (grown_refl W (some N)) 0 _) (fun e => by subst e; unfold Blk at hB h7; rw [hB] at h7; cases h7) h7 (by decide)
/-- behind the last loop -/
def AlkZ (R T N ba D i B0 : Nat) (u : Value) (xs : List EnS) (w W : World) : Prop :=
  SMapIS W ba [] ∧ Own15 W B0 u xs ∧ Blk W T 25 #[.pointer (some ⟨ba, 0, none⟩)] ∧ Blk W R 4 #[.bool false] ∧ Blk W N 3 #[.int .i64 i] ∧ Below w.heap.size w W ∧ W.heap[D]? = some (.deferred (some []))
theorem AlkZ.below {R T N ba D i B0 : Nat} {u : Value} {xs : List EnS} {w W W' : World} (h : AlkZ R T N ba D i B0 u xs w W) (hb : Below W.heap.size W W') : AlkZ R T N ba D i B0 u xs w W' := by
  obtain ⟨h1, h2, h3, h4, h5, h6, h7⟩ := h
  exact ⟨h1.below hb, h2.below hb, h3.below hb h3.lt, h4.below hb h4.lt, h5.below hb h5.lt, h6.trans (hb.mono h6.size), (hb.block D (Array.getElem?_eq_some_iff.1 h7).1).trans h7⟩
/-- one key is dropped -/
theorem alk_step {W W' : World} {R T N gb ba bc : Nat} {v : Value} {B0 : Nat} {u : Value} {xs pre : List EnS} {x : EnS} (h : AlkI R T N gb ba bc v B0 u xs pre W) (hp : pre.length < xs.length) (hne : ba ≠ bc)
    (hm : SMapIS W' ba (dropN ordI x.1 (dropA ordI pre xs))) (hg : (W.setCell ⟨N, 0, none⟩ (.int .i64 (pre.length + 1))).grownBy W' (some ba)) :
    AlkI R T N gb ba bc v B0 u xs (pre ++ [x]) W' ∧ KeepIt gb v W W' ∧ KeepsOthers W W' := by
  obtain ⟨h1, h2, h3, h4, h5, h6, h7, h8, h9⟩ := h
  obtain ⟨vb, hB, hob⟩ := h2.row
  have hg0 : W.grownBy (W.setCell ⟨N, 0, none⟩ (.int .i64 (pre.length + 1))) (some N) := grown_put (grown_refl W (some N)) 0 _
  have hnb : ba ≠ N := fun e => by subst e; unfold Blk at hB h7; rw [hB] at h7; cases h7
  have hB1 := hB.grown hg0 (by simpa using hnb)
  have k2 : ∀ {g : Nat} {t : TypeId} {cs : Array Value}, Blk W g t cs → g ≠ N → g ≠ ba → Blk W' g t cs := fun hb h1 h2 => (hb.grown hg0 (by simpa using h1)).grown hg (by simpa using h2)
  have nN : ∀ {g : Nat} {t : TypeId} {cs : Array Value}, Blk W g t cs → t ≠ 3 → g ≠ N := fun hb ht e => by subst e; exact Blk.other hb h7 ht rfl
  have nB : ∀ {g : Nat} {t : TypeId} {cs : Array Value}, Blk W g t cs → t ≠ 95 → g ≠ ba := fun hb ht e => by subst e; exact Blk.other hb hB ht rfl
  have h3' : SMapIS W' bc xs := ((h3.grown hg0 (by obtain ⟨v3, b3, _⟩ := h3.row; exact nN b3 (by decide)) h7 (by decide))).grown2 (h2.grown hg0 hnb h7 (by decide)) hg (Ne.symm hne)
  have h8' := k2 h8 (nN h8 (by decide)) (nB h8 (by decide))
  have hL : ∀ g, v.ownBlock = some g → W'.heap[g]? = W.heap[g]? := fun g hgv => by
    obtain ⟨A, c, rfl, _, _, hx⟩ := h9
    obtain ⟨g2, off, cur, rfl, hB2, _⟩ := hx (by omega)
    cases hgv
    exact (k2 hB2 (nN hB2 (by decide)) (nB hB2 (by decide))).trans (Eq.symm hB2)
  refine ⟨⟨?_, ?_, h3', ?_, ?_, ?_, ?_, h8', ?_⟩, ⟨?_, ?_, hL⟩, ?_⟩
  · exact Nat.lt_of_lt_of_le h1 (Nat.le_trans hg0.size hg.size)
  · rw [dropA_snoc]; exact hm
  · exact own_grown_typ (own_grown_typ h4 hg0 h7 (by decide)) hg hB1 (by decide)
  · exact k2 h5 (nN h5 (by decide)) (nB h5 (by decide))
  · exact k2 h6 (nN h6 (by decide)) (nB h6 (by decide))
  · have := ((h7.put 0 (.int .i64 (pre.length + 1))).grown hg (by simpa using Ne.symm hnb))
    simpa using this
  · exact h9.kept fun g cur hgv _ => hL g hgv
  · exact Nat.le_trans hg0.size hg.size
  · exact (h8' : W'.heap[gb]? = _).trans (Eq.symm h8)
  · exact (KeepsOthers.setCell _ _ _).trans (keeps_grownF hg hB1)
set_option maxRecDepth 100000 in
set_option maxHeartbeats 8000000 in
theorem sortedAlike_main (w : World) (A : Option Addr) (n c : Nat) (l : List EnS) (hl : l.length = n) (hnc : n ≤ c) (hcm : c ≤ maxLen) (hsl : SlOf w 2 eCIS A l) (hv : ∀ e ∈ l, e.2.size ≤ maxLen) :
    Calls Try.prog 4 #[.slice A n c] w fun e w' => e = .returned (.bool true) ∧ Below w.heap.size w w' := by
  unfold maxLen at hcm hv
  have HN := Lib.hid (fun W => srtNewIS_any W)
  have HLV := Lib.hid (fun W => lives15 W)
  have h0 := Blk.new w 4 #[.bool false]
  have hb0 := (Below.refl w.heap.size w).alloc (Nat.le_refl _) (.cells #[.bool false] 4)
  refine callsIn_wide.1 (?_ : CallsIn Fence.wide 9 _ _ _ _ _)
  refine callsIn_of_wp_marks Try.func4 rfl trivial ?_ rfl
  simp only [Try.ntmps4, List.size_toArray, List.length_cons, List.length_nil, Nat.reduceAdd, Nat.reduceSub, Array.replicate_succ, Array.replicate_zero, List.push_toArray, List.append_toArray, List.nil_append, List.cons_append]
  by_cases h30 : (30 : Int) < n
  · have f0 := h0.frozen 0
    have H0 := Lib.hid (And.intro h0 hb0)
    clear h0 hb0
    gi_wp2
    refine ⟨trivial, (callsIn_wide.2 (HLV.out _)).mono ?_⟩
    rintro e w1 ⟨rfl, hb⟩
    have HW := Lib.hid (And.intro (H0.out.1.below hb H0.out.1.lt) (H0.out.2.trans (hb.mono H0.out.2.size)))
    have r0 := HW.out.1.cell 0
    have p0 := HW.out.1.frozen 0
    simp at r0
    clear hb
    gi_wp2
    refine ⟨_, res_cellB rfl _ _ w.heap.size 4 (.bool true) rfl (HW.out.1.put 0 _) Try.underlying4, rfl, ?_⟩
    exact HW.out.2.setCell (Nat.le_refl _) _
  · have H0 := Lib.hid (And.intro h0 hb0)
    clear h0 hb0
    gi_wp2
    refine ⟨trivial, (callsIn_wide.2 (HN.out _)).mono ?_⟩
    rintro e w1 ⟨ba, rfl, hm1, hba, hb1⟩
    have HM1 := Lib.hid (And.intro hm1 (And.intro (H0.out.1.below hb1 H0.out.1.lt) (H0.out.2.trans (hb1.mono H0.out.2.size)))); clear hm1 hb1
    gi_wp2
    refine ⟨trivial, (callsIn_wide.2 (HN.out _)).mono ?_⟩
    rintro e w2 ⟨bb, rfl, hm2, hbb, hb2⟩
    have HM2 := Lib.hid (And.intro hm2 (And.intro (HM1.out.1.below hb2) (And.intro (HM1.out.2.1.below hb2 HM1.out.2.1.lt) (HM1.out.2.2.trans (hb2.mono HM1.out.2.2.size))))); clear hm2 hb2
    have H3 := Lib.hid (And.intro (Blk.new w2 25 #[.pointer (some ⟨ba, 0, none⟩)]) (And.intro (HM2.out.1.below ((Below.refl _ _).alloc (Nat.le_refl _) (.cells #[.pointer (some ⟨ba, 0, none⟩)] 25))) (And.intro (HM2.out.2.1.below ((Below.refl _ _).alloc (Nat.le_refl _) (.cells #[.pointer (some ⟨ba, 0, none⟩)] 25))) (And.intro (HM2.out.2.2.1.alloc (.cells #[.pointer (some ⟨ba, 0, none⟩)] 25)) (HM2.out.2.2.2.alloc HM2.out.2.2.2.size (.cells #[.pointer (some ⟨ba, 0, none⟩)] 25))))))
    obtain ⟨T, hT⟩ : ∃ T, w2.heap.size = T := ⟨_, rfl⟩
    gi_wp2
    gi_loopw [5, 7, 35] (fun _ _ iv wr => ∃ i : Nat, i ≤ n ∧ iv = .int .i64 i ∧ (∀ j (hj : j < l.length), j < i → (l[j]'hj).2.size ≤ 50 ∧ ∀ k (hk : k < j), (l[k]'(by omega)).1 ≠ (l[j]'hj).1) ∧ SMapIS wr ba (putL ordI (l.take i)) ∧ SMapIS wr bb (putL ordI (l.reverse.take i)) ∧ Blk wr T 25 #[.pointer (some ⟨ba, 0, none⟩)] ∧ Blk wr w.heap.size 4 #[.bool false] ∧ Below w.heap.size w wr) (fun _ _ iv _ => n - (intOf iv).toNat)
    case atStart => exact ⟨0, Nat.zero_le _, rfl, fun j hj h => absurd h (Nat.not_lt_zero _), H3.out.2.2.1, H3.out.2.1, by rw [← hT]; exact H3.out.1, H3.out.2.2.2.1, H3.out.2.2.2.2⟩
    case round =>
      obtain ⟨i, hi, rfl, hall, hma, hmb, hbx, hrs, hbw⟩ := hrel
      by_cases hlt : i < n
      · obtain ⟨j, hj⟩ : ∃ j : Nat, (n : Int) - 1 - i = j := ⟨n - 1 - i, by omega⟩
        have HJ := Lib.hid hj
        have hjn : j < n := by omega
        have hil : i < l.length := by omega
        have hjl : j < l.length := by omega
        have hsl2 := hsl
        obtain ⟨gx, ox, rfl, hlx, hcx⟩ := hsl2 (by omega)
        have d0 := hcx i hil 0 (by omega)
        have d1 := hcx i hil 1 (by omega)
        have d2 := hcx j hjl 0 (by omega)
        have d3 := hcx j hjl 1 (by omega)
        simp only [eCIS, List.getElem?_cons_succ, List.getElem?_cons_zero, Nat.add_zero] at d0 d1 d2 d3
        have e0 := (hbw.cell (p := ⟨gx, ox + i * 2, none⟩) hlx).trans d0
        have e1 := (hbw.cell (p := ⟨gx, ox + i * 2 + 1, none⟩) hlx).trans d1
        have e2 := (hbw.cell (p := ⟨gx, ox + j * 2, none⟩) hlx).trans d2
        have e3 := (hbw.cell (p := ⟨gx, ox + j * 2 + 1, none⟩) hlx).trans d3
        have hyv := hv l[i] (List.getElem_mem hil)
        have hzv := hv l[j] (List.getElem_mem hjl)
        have HINV := Lib.hid (And.intro hma (And.intro hmb (And.intro hbx (And.intro hrs hbw)))); clear hma hmb hbx hrs hbw
        have HALL := Lib.hid hall; clear hall
        have HCX := Lib.hid hcx; clear hcx
        clear d0 d1 d2 d3
        obtain ⟨y, hy⟩ : ∃ y, l[i] = y := ⟨_, rfl⟩
        obtain ⟨z, hz⟩ : ∃ z, l[j] = z := ⟨_, rfl⟩
        simp only [hy] at e0 e1 hyv
        simp only [hz] at e2 e3 hzv
        have HYZ := Lib.hid (And.intro hy hz); clear hy hz
        have hi1 : (i : Int) < n := by omega
        have hj1 : (j : Int) < n := by omega
        by_cases hy5 : (50 : Int) < y.2.size
        · gi_wp2
          refine ⟨trivial, (callsIn_wide.2 (HLV.out _)).mono ?_⟩
          rintro e w4 ⟨rfl, hb⟩
          have HW := Lib.hid (And.intro (HINV.out.2.2.2.1.below hb HINV.out.2.2.2.1.lt) (HINV.out.2.2.2.2.trans (hb.mono HINV.out.2.2.2.2.size)))
          have r0 := HW.out.1.cell 0
          have p0 := HW.out.1.frozen 0
          simp at r0
          clear hb
          gi_wp2
          refine ⟨_, res_cellB rfl _ _ w.heap.size 4 (.bool true) rfl (HW.out.1.put 0 _) Try.underlying4, rfl, ?_⟩
          exact HW.out.2.setCell (Nat.le_refl _) _
        · by_cases hz5 : (50 : Int) < z.2.size
          · gi_wp2
            refine ⟨trivial, (callsIn_wide.2 (HLV.out _)).mono ?_⟩
            rintro e w4 ⟨rfl, hb⟩
            have HW := Lib.hid (And.intro (HINV.out.2.2.2.1.below hb HINV.out.2.2.2.1.lt) (HINV.out.2.2.2.2.trans (hb.mono HINV.out.2.2.2.2.size)))
            have r0 := HW.out.1.cell 0
            have p0 := HW.out.1.frozen 0
            simp at r0
            clear hb
            gi_wp2
            refine ⟨_, res_cellB rfl _ _ w.heap.size 4 (.bool true) rfl (HW.out.1.put 0 _) Try.underlying4, rfl, ?_⟩
            exact HW.out.2.setCell (Nat.le_refl _) _
          · have hic : i ≤ c := by omega
            gi_wp2
            obtain ⟨wo, rfl⟩ : ∃ wo : World, wo = wr := ⟨_, rfl⟩
            gi_loopw [7, 63] (fun _ kv wr => ∃ k : Nat, k ≤ i ∧ kv = .int .i64 k ∧ (∀ k' (hk : k' < k) (h : k' < l.length), (l[k']'h).1 ≠ y.1) ∧ Below wo.heap.size wo wr) (fun _ kv _ => i - (intOf kv).toNat)
            case atStart => exact ⟨0, Nat.zero_le _, rfl, fun k' hk => absurd hk (Nat.not_lt_zero _), Below.refl _ _⟩
            case round =>
              obtain ⟨k, hk, rfl, hdif, hbk⟩ := hrel
              by_cases hki : k < i
              · have hkl : k < l.length := by omega
                have d0 := HCX.out k hkl 0 (by omega)
                have d1 := HCX.out k hkl 1 (by omega)
                simp only [eCIS, List.getElem?_cons_succ, List.getElem?_cons_zero, Nat.add_zero] at d0 d1
                have hbb2 := HINV.out.2.2.2.2.trans (hbk.mono HINV.out.2.2.2.2.size)
                have g0 := (hbb2.cell (p := ⟨gx, ox + k * 2, none⟩) hlx).trans d0
                have g1 := (hbb2.cell (p := ⟨gx, ox + k * 2 + 1, none⟩) hlx).trans d1
                have hko : gx < wo.heap.size := Nat.lt_of_lt_of_le hlx HINV.out.2.2.2.2.size
                have e0' := (hbk.cell (p := ⟨gx, ox + i * 2, none⟩) hko).trans e0
                have hk1 : (k : Int) < i := by omega
                obtain ⟨q, hq⟩ : ∃ q, l[k] = q := ⟨_, rfl⟩
                simp only [hq] at g0 g1
                have HQ := Lib.hid (And.intro hq (And.intro hbk (And.intro hdif hbb2))); clear hq hbk hdif hbb2 d0 d1
                have hgw : gx < wr.heap.size := Nat.lt_of_lt_of_le hko HQ.out.2.1.size
                by_cases hqy : q.1 = y.1
                · have hqb : (q.1 == y.1) = true := by rw [beq_iff_eq]; exact hqy
                  clear hqy
                  gi_wp2
                  gi_region
                  gi_wp2
                  have HK := Lib.hid (show Blk ((wr.alloc (.cells #[.int .i64 q.1, .string q.2] 40)).drew) w.heap.size 4 #[.bool false] ∧ Below w.heap.size w ((wr.alloc (.cells #[.int .i64 q.1, .string q.2] 40)).drew) from ⟨(HINV.out.2.2.2.1.below HQ.out.2.1 HINV.out.2.2.2.1.lt).alloc _, (HQ.out.2.2.2.alloc HQ.out.2.2.2.size _).drew⟩)
                  refine ⟨trivial, (callsIn_wide.2 (HLV.out _)).mono ?_⟩
                  rintro e w4 ⟨rfl, hb⟩
                  have HW := Lib.hid (And.intro (HK.out.1.below hb HK.out.1.lt) (HK.out.2.trans (hb.mono HK.out.2.size)))
                  have r0 := HW.out.1.cell 0
                  have p0 := HW.out.1.frozen 0
                  simp at r0
                  clear hb
                  gi_wp2
                  refine ⟨_, res_cellB rfl _ _ w.heap.size 4 (.bool true) rfl (HW.out.1.put 0 _) Try.underlying4, rfl, ?_⟩
                  exact HW.out.2.setCell (Nat.le_refl _) _
                · have hqb : (q.1 == y.1) = false := by rw [beq_eq_false_iff_ne]; exact hqy
                  have HNE := Lib.hid hqy; clear hqy
                  gi_wp2
                  gi_region
                  gi_wp2
                  refine ⟨⟨k + 1, by omega, by go_num, fun k' hk' h => ?_, (HQ.out.2.1.alloc HQ.out.2.1.size _).drew⟩, by simp [intOf]; omega⟩
                  by_cases hkk : k' < k
                  · exact HQ.out.2.2.1 k' hkk h
                  · obtain rfl : k' = k := by omega
                    rw [HQ.out.1]
                    exact HNE.out
              · obtain rfl : k = i := by omega
                have HDF := Lib.hid hdif; clear hdif hki
                have hbb2 := HINV.out.2.2.2.2.trans (hbk.mono HINV.out.2.2.2.2.size)
                have HB3 := Lib.hid (HINV.out.2.2.1.below hbk HINV.out.2.2.1.lt)
                have b0 := HB3.out.cell 0
                simp at b0
                have hko : gx < wo.heap.size := Nat.lt_of_lt_of_le hlx HINV.out.2.2.2.2.size
                have s0 := (hbk.cell (p := ⟨gx, ox + k * 2, none⟩) hko).trans e0
                have s1 := (hbk.cell (p := ⟨gx, ox + k * 2 + 1, none⟩) hko).trans e1
                have HBK := Lib.hid (And.intro hbk hbb2); clear hbk hbb2
                gi_wp2
                refine wpIn_wide.2 ?_
                go_still_tail 11, (by kernel_rfl)
                go_wp2_with fail
                have hbaB : ba < w1.heap.size := HM1.out.1.lt2
                have hneAB : ba ≠ bb := by omega
                have hmaD : SMapIS wr.drew ba (putL ordI (l.take k)) := HINV.out.1.below HBK.out.1.drew
                have hmbD : SMapIS wr.drew bb (putL ordI (l.reverse.take k)) := HINV.out.2.1.below HBK.out.1.drew
                refine (srtPutIS_any _ ba _ y.1 y.2 hmaD (by have := putL_length (c := ordI) (l.take k); rw [List.length_take] at this; omega) trivial).mono ?_
                rintro e w5 ⟨rfl, hm5, hg5⟩
                have hmb5 := hmbD.grown2 hmaD hg5 (Ne.symm hneAB)
                have hbaW : w.heap.size ≤ ba := by have := hba; simp at this; omega
                have hbbW : w.heap.size ≤ bb := by omega
                have hbw5 := below_grown (HBK.out.2.drew) hg5 hbaW HBK.out.2.drew.size
                have hTba : T ≠ ba := by have := HM2.out.2.1.lt2; omega
                have hTbb : T ≠ bb := by have := HM2.out.1.lt2; omega
                have hbx5 : Blk w5 T 25 #[.pointer (some ⟨ba, 0, none⟩)] := Blk.grown (w := wr.drew) HB3.out hg5 (by simpa using hTba)
                have hrba : w.heap.size ≠ ba := by simp at hba; omega
                have hrbb : w.heap.size ≠ bb := by simp at hba; omega
                have hrs5 : Blk w5 w.heap.size 4 #[.bool false] := Blk.grown (w := wr.drew) (HINV.out.2.2.2.1.below HBK.out.1.drew HINV.out.2.2.2.1.lt) hg5 (by simpa using hrba)
                have d2 := HCX.out j hjl 0 (by omega)
                have d3 := HCX.out j hjl 1 (by omega)
                simp only [HYZ.out.2, eCIS, List.getElem?_cons_succ, List.getElem?_cons_zero, Nat.add_zero] at d2 d3
                have t2 := (hbw5.cell (p := ⟨gx, ox + j * 2, none⟩) hlx).trans d2
                have t3 := (hbw5.cell (p := ⟨gx, ox + j * 2 + 1, none⟩) hlx).trans d3
                have H5 := Lib.hid (And.intro hm5 (And.intro hmb5 (And.intro hbx5 (And.intro hrs5 hbw5)))); clear hm5 hmb5 hbx5 hrs5 hbw5 hg5 hmaD hmbD d2 d3 e0 e1 e2 e3 s0 s1 b0
                have hw1 : IntKind.i64.wrap ((n : Int) - 1) = (n : Int) - 1 := IntWalk.i64_in _ (by omega)
                have hw2 : IntKind.i64.wrap (j : Int) = (j : Int) := IntWalk.i64_in _ (by omega)
                go_wp2_with fail
                refine wpIn_wide.2 ?_
                go_still_tail 19, (by kernel_rfl)
                go_wp2_with fail
                have hma6 : SMapIS w5.drew ba (putN ordI y.1 y.2 (putL ordI (l.take k))) := H5.out.1.drew
                have hmb6 : SMapIS w5.drew bb (putL ordI (l.reverse.take k)) := H5.out.2.1.drew
                refine (srtPutIS_any _ bb _ z.1 z.2 hmb6 (by have := putL_length (c := ordI) (l.reverse.take k); rw [List.length_take] at this; omega) trivial).mono ?_
                rintro e w7 ⟨rfl, hm7, hg7⟩
                have hma7 := hma6.grown2 hmb6 hg7 hneAB
                have hbw7 := below_grown (H5.out.2.2.2.2.drew) hg7 hbbW H5.out.2.2.2.2.drew.size
                have hbx7 : Blk w7 T 25 #[.pointer (some ⟨ba, 0, none⟩)] := Blk.grown (w := w5.drew) H5.out.2.2.1 hg7 (by simpa using hTbb)
                have hrs7 : Blk w7 w.heap.size 4 #[.bool false] := Blk.grown (w := w5.drew) H5.out.2.2.2.1 hg7 (by simpa using hrbb)
                have H7 := Lib.hid (And.intro hma7 (And.intro hm7 (And.intro hbx7 (And.intro hrs7 hbw7)))); clear hma7 hm7 hbx7 hrs7 hbw7 hg7 hma6 hmb6 t2 t3 hw1 hw2
                go_wp2_with fail
                gi_wp2
                refine ⟨⟨k + 1, by omega, by go_num, fun j' hj' hjk => ?_, ?_, ?_, H7.out.2.2.1, H7.out.2.2.2.1, H7.out.2.2.2.2⟩, by simp [intOf]; omega⟩
                · by_cases hjk' : j' < k
                  · exact HALL.out j' hj' hjk'
                  · obtain rfl : j' = k := by omega
                    rw [HYZ.out.1]
                    exact ⟨by omega, fun k' hk' => HDF.out k' hk' (by omega)⟩
                · rw [List.take_succ_eq_append_getElem hil, putL_snoc, HYZ.out.1]
                  exact H7.out.1
                · rw [List.take_succ_eq_append_getElem (by simpa using hil), putL_snoc, List.getElem_reverse]
                  have ej : l.length - 1 - k = j := by have := HJ.out; omega
                  simp only [ej]
                  rw [HYZ.out.2]
                  exact H7.out.2.1
      · obtain rfl : i = n := by omega
        have hun : Unlike l := unlike_of fun j hj k hk => (hall j hj (by omega)).2 k hk
        rw [List.take_of_length_le (by omega)] at hma
        rw [List.take_of_length_le (by simp; omega), putL_alike ordI_ord hun] at hmb
        obtain ⟨hup, _, hlen⟩ := putL_all ordI_ord _ l rfl hun
        obtain ⟨xs, hxs⟩ : ∃ xs, putL ordI l = xs := ⟨_, rfl⟩
        rw [hxs] at hma hmb hup hlen
        clear hall hun hxs
        have hxl : xs.length = i := by omega
        have b0 := hbx.cell 0
        simp at b0
        have HINV := Lib.hid (And.intro hma (And.intro hmb (And.intro hbx (And.intro hrs hbw)))); clear hma hmb hbx hrs hbw
        have HXL := Lib.hid (And.intro hxl (And.intro hup hT)); clear hxl hup hlen hT
        gi_wp2
        refine ⟨trivial, (callsIn_wide.2 (srtAllIS_any wr ba xs HINV.out.1)).mono ?_⟩
        rintro e w5 ⟨gb1, v1, rfl, hg1, hL1, hge1, hv1, hb1⟩
        have HT := Lib.hid (all15_any w5 gb1 v1 xs 99 hg1 hL1 hv1 (by have := HXL.out.1; omega)); clear hg1 hL1 hge1 hv1
        have HB := Lib.hid hb1; clear hb1
        gi_wp2
        refine ⟨trivial, (callsIn_wide.2 HT.out).mono ?_⟩
        rintro e w6 ⟨u1, rfl, ho6, hb6⟩
        rw [show xs.take (99 : Int).toNat = xs from List.take_of_length_le (by have := HXL.out.1; show _ ≤ 99; omega)] at ho6
        have HO6 := Lib.hid ho6; clear ho6
        have HB6 := Lib.hid (HB.out.trans (hb6.mono HB.out.size)); clear hb6 HT HB
        have hmb6 : SMapIS w6 bb xs := HINV.out.2.1.below HB6.out
        gi_wp2
        refine ⟨trivial, (callsIn_wide.2 (srtAllIS_any w6 bb xs hmb6)).mono ?_⟩
        rintro e w7 ⟨gb2, v2, rfl, hg2, hL2, hge2, hv2, hb7⟩
        have HT := Lib.hid (all15_any w7 gb2 v2 xs 99 hg2 hL2 hv2 (by have := HXL.out.1; omega)); clear hg2 hL2 hge2 hv2
        have HB7 := Lib.hid hb7; clear hb7
        gi_wp2
        refine ⟨trivial, (callsIn_wide.2 HT.out).mono ?_⟩
        rintro e w8 ⟨u2, rfl, ho8, hb8⟩
        rw [show xs.take (99 : Int).toNat = xs from List.take_of_length_le (by have := HXL.out.1; show _ ≤ 99; omega)] at ho8
        have hb68 := HB7.out.trans (hb8.mono HB7.out.size)
        have HO8 := Lib.hid (And.intro (HO6.out.below hb68) ho8); clear ho8
        have hb8' := HB6.out.trans (hb68.mono HB6.out.size)
        have hbx8 := HINV.out.2.2.1.below hb8' HINV.out.2.2.1.lt
        have b8 := hbx8.cell 0
        simp at b8
        have HINV8 := Lib.hid (And.intro (HINV.out.1.below hb8') (And.intro hbx8 (And.intro (HINV.out.2.2.2.1.below hb8' HINV.out.2.2.2.1.lt) (HINV.out.2.2.2.2.trans (hb8'.mono HINV.out.2.2.2.2.size)))))
        clear HT hb8 hb68 hb8' HB7 HB6 HO6 HINV hmb6 hbx8
        gi_wp2
        refine ⟨trivial, (callsIn_wide.2 (srtCloneIS_any w8 ba xs HINV8.out.1)).mono ?_⟩
        rintro e w9 ⟨bc, rfl, hmc, hbc, hb9⟩
        have hbabc : ba ≠ bc := by have := HINV8.out.1.lt2; omega
        have hbaR : w.heap.size ≤ ba := by simp at hba; omega
        have hbx9 := HINV8.out.2.1.below hb9 HINV8.out.2.1.lt
        have b9 := hbx9.cell 0
        simp at b9
        have HINV9 := Lib.hid (And.intro (HINV8.out.1.below hb9) (And.intro hmc (And.intro hbx9 (And.intro (HINV8.out.2.2.1.below hb9 HINV8.out.2.2.1.lt) (And.intro (HINV8.out.2.2.2.trans (hb9.mono HINV8.out.2.2.2.size)) (And.intro (HO8.out.1.below hb9) (HO8.out.2.below hb9)))))))
        clear hb9 HINV8 HO8 hmc hbx9 b8
        gi_wp2
        refine ⟨trivial, (callsIn_wide.2 (srtAllIS_any w9 ba xs HINV9.out.1)).mono ?_⟩
        rintro e w10 ⟨gb, v, rfl, hgb, hL, hge, hvb, hb10⟩
        have hbx10 := HINV9.out.2.2.1.below hb10 HINV9.out.2.2.1.lt
        have b10 := hbx10.cell 0
        simp at b10
        have hs1 := (HINV9.out.2.2.2.2.2.1.below hb10).slv
        have hs2 := (HINV9.out.2.2.2.2.2.2.below hb10).slv
        have hsm := ref15Same_yes w10 u1 u2 xs hs1 hs2
        obtain ⟨A1, c1, e1, _, _, _⟩ := hs1
        obtain ⟨A2, c2, e2, _, _, _⟩ := hs2
        rw [HXL.out.1] at e1 e2
        subst e1
        subst e2
        have HSM := Lib.hid hsm; clear hsm
        have hnf : ∀ W, (binOp .eql 44 (.func (.func 81) #[] #[.pointer (some ⟨gb, 0, none⟩)]) Value.nilFunc).run Try.prog W = .ok (.bool false) W := fun W => rfl
        have HI := Lib.hid (And.intro (HINV9.out.1.below hb10) (And.intro (HINV9.out.2.1.below hb10) (And.intro (HINV9.out.2.2.2.2.2.1.below hb10) (And.intro hbx10 (And.intro (HINV9.out.2.2.2.1.below hb10 HINV9.out.2.2.2.1.lt) (And.intro (HINV9.out.2.2.2.2.1.trans (hb10.mono HINV9.out.2.2.2.2.1.size)) (And.intro hgb (And.intro hL hvb))))))))
        clear hb10 HINV9 hbx10 b9 hgb hL hvb
        gi_wp2
        refine ⟨trivial, (callsIn_wide.2 HSM.out).mono ?_⟩
        rintro e w11 ⟨rfl, m11, hw11⟩
        have hb11 : Below w10.heap.size w10 w11 := by rw [hw11]; exact below_drewN (Below.refl _ _) m11
        have HJ := Lib.hid (alk_start hb11 HI.out.1 HI.out.2.1 HI.out.2.2.1 HI.out.2.2.2.1 HI.out.2.2.2.2.1 HI.out.2.2.2.2.2.2.1 HI.out.2.2.2.2.2.2.2.1)
        have hb12 := (HI.out.2.2.2.2.2.1.trans (hb11.mono HI.out.2.2.2.2.2.1.size)).alloc ((HI.out.2.2.2.2.2.1.trans (hb11.mono HI.out.2.2.2.2.2.1.size)).size) (.cells #[.int .i64 0] 3)
        have hvb12 := fun g hg => Nat.lt_of_lt_of_le (HI.out.2.2.2.2.2.2.2.2 g hg) hb11.size
        have HB12 := Lib.hid (And.intro hb12 hvb12)
        have hRN : w.heap.size ≤ w11.heap.size := Nat.le_trans HI.out.2.2.2.2.2.1.size hb11.size
        clear HSM HI b10 hb11 hw11 hb12 hvb12
        gi_wp2
        obtain ⟨N, hN⟩ : ∃ N, w11.heap.size = N := ⟨_, rfl⟩
        rw [hN] at HJ
        have hj0 := HJ.out
        have hb12 := HB12.out.1
        have hvb12 := HB12.out.2
        have hz12 : (w11.alloc (.cells #[.int .i64 0] 3)).heap.size = N + 1 := by simp [hN]
        have hlz := hb12.size
        rw [hN] at hvb12 hRN
        rw [hN]
        clear HJ HB12
        generalize w11.alloc (.cells #[.int .i64 0] 3) = w12 at *
        have hgl : gb < w12.heap.size := hj0.2.2.2.2.2.2.2.1.lt
        refine wpIn_rangeFunc_ownF rfl (by omega) (gf := 81) (lb := #[.pointer (some ⟨gb, 0, none⟩)]) rfl trivial (enters_of Try.func81 (by kernel_rfl) rfl)
          (toldIS_stops 8 (by omega) gb v xs w12 hj0.2.2.2.2.2.2.2.1 hj0.2.2.2.2.2.2.2.2 (by have := HXL.out.1; omega)) KeepIt.trans (keepIt_b hgl (fun g hg => by have := hvb12 g hg; omega)) (Below.refl _ _) (fun _ => rfl)
          (fun pre W => AlkI w.heap.size T N gb ba bc v w5.heap.size (.slice A1 i c1) xs pre W ∧ Below w.heap.size w W)
          (fun c pre W => ∃ (pre' : List EnS) (x : EnS), pre = pre' ++ [x] ∧ inN ordI x.1 (dropA ordI pre' xs) = false)
          (OwnFrom.and (Own.from (AlkI.own _ _ _ _ _ _ _ _ _ _) _) (ownFrom_below (Nat.le_refl _) (by omega)))
          (fun c => Own.from (fun pre A B row hs _ _ => hs) _)
          ⟨hj0, hb12⟩
          ?a1 ?assign ?body ?done ?stop
        case assign =>
          intro l x W K hK
          gi_wp2
          exact hK
        case body =>
          rintro l pre x W ⟨hI, hB⟩ hlt
          have m0 := hI.2.2.2.2.1.cell 0
          have m1 := hI.2.2.2.2.2.2.1.cell 0
          have f1 := hI.2.2.2.2.2.2.1.frozen 0
          simp at m0 m1
          have hm2 := hI.map1
          have hTN : T ≠ N := fun e => by subst e; exact Blk.other hI.2.2.2.2.1 hI.2.2.2.2.2.2.1 (by decide) rfl
          have hD := srtDropIS_any (W.setCell ⟨N, 0, none⟩ (.int .i64 (pre.length + 1))) ba (dropA ordI pre xs) x.1 hm2 (by have := dropA_len (c := ordI) pre xs; have := HXL.out.1; omega) trivial
          have hp30 : (pre.length : Int) < 30 := by have := HXL.out.1; omega
          have HI := Lib.hid (And.intro hI hB); clear hI hB hm2
          cases hin : inN ordI x.1 (dropA ordI pre xs) with
          | true =>
            rw [hin] at hD
            have HD := Lib.hid hD; clear hD hin
            gi_wp2
            refine ⟨trivial, (CallsIn.inRound l (callsIn_wide.2 HD.out)).mono ?_⟩
            rintro e w13 ⟨rfl, hm13, hg13⟩
            have HS := Lib.hid (alk_step HI.out.1 hlt hbabc hm13 hg13)
            have hB13 := Lib.hid (below_grown (HI.out.2.setCell (p := ⟨N, 0, none⟩) hRN (.int .i64 (pre.length + 1))) hg13 hbaR (by simpa using HI.out.2.size))
            clear hm13 hg13 m0 m1 f1
            gi_wp2
            exact ⟨HS.out.2.2, HS.out.2.1, HS.out.1, hB13.out⟩
          | false =>
            rw [hin] at hD
            have HN := Lib.hid hin
            have HD := Lib.hid hD; clear hD hin
            gi_wp2
            refine ⟨trivial, (CallsIn.inRound l (callsIn_wide.2 HD.out)).mono ?_⟩
            rintro e w13 ⟨rfl, hm13, hg13⟩
            have HK := Lib.hid (alk_step HI.out.1 hlt hbabc hm13 hg13)
            clear hm13 hg13 m0 m1 f1
            have r0 := HK.out.1.2.2.2.2.2.1.cell 0
            have p0 := HK.out.1.2.2.2.2.2.1.frozen 0
            simp at r0
            gi_wp2
            exact ⟨HK.out.2.2.trans (KeepsOthers.setCell _ _ _), ⟨pre, x, rfl, HN.out⟩⟩
        case done =>
          rintro D ys W hD hys ⟨hI, hB⟩ hK
          have hys' : ys = xs := hys
          rw [hys'] at hI
          clear hys hys' ys hj0 hb12 hvb12 hgl
          obtain ⟨_, hma, hmc, ho, hbT, hbR, hbN, _, _⟩ := hI
          rw [dropA_all ordI_ord] at hma
          rw [HXL.out.1] at hbN
          have HZ := Lib.hid (show AlkZ w.heap.size T N ba D i w5.heap.size (.slice A1 i c1) xs w W from ⟨hma, ho, hbT, hbR, hbN, hB, hK⟩)
          have HMC := Lib.hid hmc
          have HD' := Lib.hid (Nat.le_trans (Nat.le_trans hRN (by omega)) hD : w.heap.size ≤ D)
          clear hma ho hbT hbR hbN hB hK hmc hD
          gi_wp2
          refine ⟨trivial, (callsIn_wide.2 (srtAllIS_any W bc xs HMC.out)).mono ?_⟩
          rintro e w14 ⟨gb3, v3, rfl, hg3, hL3, hge3, hv3, hb14⟩
          have HT := Lib.hid (all15_any w14 gb3 v3 xs 99 hg3 hL3 hv3 (by have := HXL.out.1; omega)); clear hg3 hL3 hge3 hv3
          have HZ14 := Lib.hid (HZ.out.below hb14); clear hb14 HZ HMC
          gi_wp2
          refine ⟨trivial, (callsIn_wide.2 HT.out).mono ?_⟩
          rintro e w15 ⟨u3, rfl, ho15, hb15⟩
          rw [show xs.take (99 : Int).toNat = xs from List.take_of_length_le (by have := HXL.out.1; show _ ≤ 99; omega)] at ho15
          have HO3 := Lib.hid ho15; clear ho15
          have HZ15 := Lib.hid (HZ14.out.below hb15); clear hb15 HZ14 HT
          gi_wp2
          refine ⟨trivial, (callsIn_wide.2 (nilGet_any w15 1)).mono ?_⟩
          rintro e w15' ⟨rfl, rfl⟩
          gi_wp2
          refine ⟨trivial, (callsIn_wide.2 (nilAll_any w15)).mono ?_⟩
          rintro e w16 ⟨gb4, v4, rfl, hg4, hL4, hge4, hv4, hb16⟩
          have HT := Lib.hid (all15_any w16 gb4 v4 [] 9 hg4 hL4 hv4 (by decide)); clear hg4 hL4 hge4 hv4
          have HO3' := Lib.hid (HO3.out.below hb16)
          have HZ16 := Lib.hid (HZ15.out.below hb16); clear hb16 HZ15 HO3
          gi_wp2
          refine ⟨trivial, (callsIn_wide.2 HT.out).mono ?_⟩
          rintro e w17 ⟨u4, rfl, ho17, hb17⟩
          obtain ⟨A4, c4, e4, _, _, _⟩ := Own15.slv ho17
          rw [List.take_nil, List.length_nil] at e4
          subst e4
          have HO3 := Lib.hid (HO3'.out.below hb17)
          have HZ17 := Lib.hid (HZ16.out.below hb17); clear hb17 HZ16 HO3' HT ho17
          gi_wp2
          refine ⟨trivial, (callsIn_wide.2 (nilBack_any w17)).mono ?_⟩
          rintro e w18 ⟨gb5, v5, rfl, hg5, hL5, hge5, hv5, hb18⟩
          have HT := Lib.hid (all15_any w18 gb5 v5 [] 9 hg5 hL5 hv5 (by decide)); clear hg5 hL5 hge5 hv5
          have HO3' := Lib.hid (HO3.out.below hb18)
          have HZ18 := Lib.hid (HZ17.out.below hb18); clear hb18 HZ17 HO3
          gi_wp2
          refine ⟨trivial, (callsIn_wide.2 HT.out).mono ?_⟩
          rintro e w19 ⟨u5', rfl, ho19, hb19⟩
          obtain ⟨A5, c5, e5, _, _, _⟩ := Own15.slv ho19
          rw [List.take_nil, List.length_nil] at e5
          subst e5
          have HO3 := Lib.hid (HO3'.out.below hb19)
          have HZ19 := Lib.hid (HZ18.out.below hb19); clear hb19 HZ18 HO3' HT ho19
          gi_wp2
          refine ⟨trivial, (callsIn_wide.2 (nilFrom_any w19 1)).mono ?_⟩
          rintro e w20 ⟨gb6, v6, rfl, hg6, hL6, hge6, hv6, hb20⟩
          have HT := Lib.hid (all15_any w20 gb6 v6 [] 9 hg6 hL6 hv6 (by decide)); clear hg6 hL6 hge6 hv6
          have HO3' := Lib.hid (HO3.out.below hb20)
          have HZ20 := Lib.hid (HZ19.out.below hb20); clear hb20 HZ19 HO3
          gi_wp2
          refine ⟨trivial, (callsIn_wide.2 HT.out).mono ?_⟩
          rintro e w21 ⟨u6', rfl, ho21, hb21⟩
          obtain ⟨A6, c6, e6, _, _, _⟩ := Own15.slv ho21
          rw [List.take_nil, List.length_nil] at e6
          subst e6
          have HO3 := Lib.hid (HO3'.out.below hb21)
          have hz21 := HZ20.out.below hb21
          have b21 := hz21.2.2.2.2.1.cell 0
          have t21 := hz21.2.2.1.cell 0
          simp at b21 t21
          have HZ21 := Lib.hid hz21; clear hb21 HZ20 HO3' HT ho21 hz21
          have hln := (srtLenIS_any w21 ba [] HZ21.out.1).mono (fun e w' h => (⟨h.1, h.2⟩ : e = .returned (.int .i64 0) ∧ w21 = w'))
          have hsm := ref15Same_yes w21 u3 (.slice A1 i c1) xs HO3.out.slv HZ21.out.2.1.slv
          have HLN := Lib.hid hln
          have HSM := Lib.hid hsm
          clear hln hsm
          obtain ⟨A3, c3, e3, _, _, _⟩ := HO3.out.slv
          rw [HXL.out.1] at e3
          subst e3
          gi_wp2
          refine ⟨trivial, (callsIn_wide.2 HLN.out).mono ?_⟩
          rintro e w21' ⟨rfl, rfl⟩
          gi_wp2
          refine ⟨trivial, (callsIn_wide.2 HSM.out).mono ?_⟩
          rintro e w22 ⟨rfl, m22, hw22⟩
          have hb22 : Below w21.heap.size w21 w22 := by rw [hw22]; exact below_drewN (Below.refl _ _) m22
          have HZ22 := Lib.hid (HZ21.out.below hb22)
          clear hb22 hw22 HZ21 HSM HLN HO3 b21 t21
          gi_wp2
          refine ⟨trivial, (callsIn_wide.2 (nilPut_any w22 1 ⟨#[120]⟩)).mono ?_⟩
          rintro e w22' ⟨rfl, rfl⟩
          gi_wp2
          refine ⟨trivial, (callsIn_wide.2 (nilDrop_any w22 1)).mono ?_⟩
          rintro e w22' ⟨rfl, rfl⟩
          gi_wp2
          refine ⟨trivial, (callsIn_wide.2 (nilLen_any w22)).mono ?_⟩
          rintro e w22' ⟨rfl, rfl⟩
          gi_wp2
          refine ⟨trivial, (callsIn_wide.2 (nilClone_any w22)).mono ?_⟩
          rintro e w22' ⟨rfl, rfl⟩
          gi_wp2
          refine ⟨trivial, (callsIn_wide.2 (nilNew_any w22)).mono ?_⟩
          rintro e w22' ⟨rfl, rfl⟩
          gi_wp2
          refine ⟨trivial, (callsIn_wide.2 (HLV.out w22)).mono ?_⟩
          rintro e w23 ⟨rfl, hb23⟩
          have hz23 := HZ22.out.below hb23
          have r0 := hz23.2.2.2.1.cell 0
          have p0 := hz23.2.2.2.1.frozen 0
          simp at r0
          have HZ23 := Lib.hid hz23
          clear hz23 hb23 HZ22
          gi_wp2
          have hK23 : (w23.setCell ⟨w.heap.size, 0, none⟩ (.bool true)).heap[D]? = some (Obj.deferred (some [])) := (KeepsOthers.setCell w23 ⟨w.heap.size, 0, none⟩ (.bool true)).same D _ HZ23.out.2.2.2.2.2.2 rfl
          have hR23 : Blk (w23.setCell ⟨w.heap.size, 0, none⟩ (.bool true)) w.heap.size 4 #[.bool true] := HZ23.out.2.2.2.1.put 0 (.bool true)
          have hB23 := HZ23.out.2.2.2.2.2.1.setCell (p := ⟨w.heap.size, 0, none⟩) (Nat.le_refl _) (.bool true)
          refine ⟨by simp, .inl ⟨_, _, rfl, run_takeDeferred hK23, ?_⟩⟩
          refine ⟨_, res_cellB rfl _ _ w.heap.size 4 (.bool true) rfl (blk_ownF hR23 (grownBy_putObj' _ D (.deferred none)) (fun r e => by cases e; exact ⟨_, hK23, rfl⟩)) Try.underlying4, rfl, ?_⟩
          exact hB23.trans (belowK_b (w := w) (Nat.le_refl _) _ D _ _ HD'.out hK23 rfl rfl)
        case stop =>
          rintro D c pre W hD hSp ⟨p', x, rfl, hin⟩ hK
          have := dropA_in ordI_ord _ _ _ hSp
          rw [hin] at this
          cases this
end Go.Proofs.Ytpnkgldpmalklaa
