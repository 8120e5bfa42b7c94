/- The main walk of SortedJoins. -/
import Derived.Test.YtpnkgldpmalklaaJoinStep
import Derived.Test.YtpnkgldpmalklaaSrtJoinAnyIS
import Derived.Test.YtpnkgldpmalklaaSrtFilterIS
import Derived.Test.YtpnkgldpmalklaaHeldIn
import Derived.Test.YtpnkgldpmalklaaAppSlv
import Derived.StillTailTactics
set_option linter.unusedVariables false
set_option linter.unusedSimpArgs false
namespace Go.Proofs.Ytpnkgldpmalklaa
open Go Go.RowKit Go.Shelf
open Sw
attribute [local go_sem] Oper.semAt_some
/-- the result in a cell, of one bool -/
theorem res_cellJ {P : Program} {fn : Func} {p : Tmp} {ty : TypeId} (h : fn.results = #[.cell p ty]) (tmps : Array Value) (w : World) (g : Nat) (t : TypeId) (v : Value)
    (hp : tmps.getD p undef = .pointer (some ⟨g, 0, none⟩)) (hg : Blk w g t #[v]) (hu : P.underlying ty = some .bool) : (results fn tmps).run P w = .ok v w := by
  have hp' : tmps[p]?.getD undef = .pointer (some ⟨g, 0, none⟩) := by simpa using hp
  have hc : w.cell? ⟨g, 0, none⟩ = some v := by have := hg.cell 0; simpa using this
  simp [results, h, hp', asAddr, loadVar, isAgg, run_underlying hu, run_load, hc]
theorem Own15.zero {w : World} {b : Nat} {u : Value} {l : List EnS} (h : Own15 w b u l) : Own15 w 0 u l := own_wide h (Nat.zero_le _)
/-- what lies behind the law's filling -/
def JnZ (g0 R Tx Ty ba bb : Nat) (wanted : Int) (ux uy : Value) (xs ys : List EnS) (w W : World) : Prop :=
  Blk W g0 3 #[.int .i64 wanted] ∧ Blk W R 4 #[.bool false] ∧ Blk W Tx 28 #[ux] ∧ Blk W Ty 28 #[uy] ∧ SMapIS W ba xs ∧ SMapIS W bb ys ∧ Own15 W 0 ux xs ∧ Own15 W 0 uy ys ∧ Below w.heap.size w W
section
variable {g0 R Tx Ty ba bb : Nat} {wanted : Int} {ux uy : Value} {xs ys : List EnS} {w W W' : World}
theorem JnZ.below (h : JnZ g0 R Tx Ty ba bb wanted ux uy xs ys w W) (hb : Below W.heap.size W W') : JnZ g0 R Tx Ty ba bb wanted ux uy xs ys w W' := by
  obtain ⟨h1, h2, h3, h4, h5, h6, h7, h8, h9⟩ := h
  exact ⟨h1.below hb h1.lt, h2.below hb h2.lt, h3.below hb h3.lt, h4.below hb h4.lt, h5.below hb, h6.below hb, h7.below hb, h8.below hb, h9.trans (hb.mono h9.size)⟩
theorem JnZ.keptP (h : JnZ g0 R Tx Ty ba bb wanted ux uy xs ys w W) (hk : KeepP (fun g => g < W.heap.size) W W') (hb : Below w.heap.size w W') : JnZ g0 R Tx Ty ba bb wanted ux uy xs ys w W' := by
  obtain ⟨h1, h2, h3, h4, h5, h6, h7, h8, h9⟩ := h
  have hm : ∀ b zs, SMapIS W b zs → SMapIS W' b zs := fun b zs h => by
    obtain ⟨⟨v, q1, q2⟩, hu, ho⟩ := h
    exact ⟨⟨v, q1.keptP hk q1.lt, own_keptP q2 hk (fun g hg => (q2.lt g hg).2)⟩, hu, ho⟩
  exact ⟨h1.keptP hk h1.lt, h2.keptP hk h2.lt, h3.keptP hk h3.lt, h4.keptP hk h4.lt, hm _ _ h5, hm _ _ h6, own_keptP h7 hk (fun g hg => (h7.lt g hg).2), own_keptP h8 hk (fun g hg => (h8.lt g hg).2), hb⟩
end
/-- in a round -/
def JnB (g0 R Tx Ty ba bb Ti Tk T17 : Nat) (wanted : Int) (ux uy : Value) (xs ys : List EnS) (i k : Int) (pc : Array Value) (w W : World) : Prop :=
  JnZ g0 R Tx Ty ba bb wanted ux uy xs ys w W ∧ Blk W Ti 3 #[.int .i64 i] ∧ Blk W Tk 3 #[.int .i64 k] ∧ Blk W T17 59 pc
theorem JnB.below {g0 R Tx Ty ba bb Ti Tk T17 : Nat} {wanted : Int} {ux uy : Value} {xs ys : List EnS} {i k : Int} {pc : Array Value} {w W W' : World} (h : JnB g0 R Tx Ty ba bb Ti Tk T17 wanted ux uy xs ys i k pc w W) (hb : Below W.heap.size W W') : JnB g0 R Tx Ty ba bb Ti Tk T17 wanted ux uy xs ys i k pc w W' :=
  ⟨h.1.below hb, h.2.1.below hb h.2.1.lt, h.2.2.1.below hb h.2.2.1.lt, h.2.2.2.below hb h.2.2.2.lt⟩
/-- behind some words of Join's iterator -/
def JnI (Ti Tk : Nat) (xs ys : List EnS) (w0 : World) (pre : List (Int × Option ByteArray × Option ByteArray)) (W : World) : Prop :=
  KeepP (fun g => g < w0.heap.size) w0 W ∧ ∃ i k : Nat, i ≤ xs.length ∧ k ≤ ys.length ∧ pre ++ joinL ordI (xs.drop i) (ys.drop k) = joinL ordI xs ys ∧ Blk W Ti 3 #[.int .i64 i] ∧ Blk W Tk 3 #[.int .i64 k]
theorem JnI.own (Ti Tk : Nat) (xs ys : List EnS) (w0 : World) {B : Nat} (hB : w0.heap.size ≤ B) : OwnFrom B (JnI Ti Tk xs ys w0) := fun pre A C row hs hg hr => by
  obtain ⟨h1, i, k, h2, h3, h4, h5, h6⟩ := hs
  exact ⟨ownM_keepP (β := Unit) (fun g h => h) hB () A C row h1 hg hr, i, k, h2, h3, h4, blk_ownF h5 hg (fun r e => (hr r e).2), blk_ownF h6 hg (fun r e => (hr r e).2)⟩
/-- only new blocks, and the two counters, have turned -/
structure ChI (T : Nat) (A B : World) : Prop where
  others : KeepsOthers A B
  below : Below T A B
  block : ∀ g, g < A.heap.size → g ≠ T → g ≠ T + 1 → B.heap[g]? = A.heap[g]?
theorem ChI.refl (T : Nat) (A : World) : ChI T A A := ⟨KeepsOthers.refl A, Below.refl _ _, fun _ _ _ _ => rfl⟩
theorem ChI.step {T : Nat} {A B C : World} (h : ChI T A B) (hT : T ≤ A.heap.size) (hb : Below B.heap.size B C) : ChI T A C :=
  ⟨h.others.trans (keeps_belowF hb), h.below.trans (hb.mono (Nat.le_trans hT h.below.size)), fun g hg h1 h2 => (hb.block g (Nat.lt_of_lt_of_le hg h.below.size)).trans (h.block g hg h1 h2)⟩
theorem ChI.set {T : Nat} {A B : World} (h : ChI T A B) (g : Nat) (hg : g = T ∨ g = T + 1) (v : Value) : ChI T A (B.setCell ⟨g, 0, none⟩ v) :=
  ⟨h.others.trans (KeepsOthers.setCell _ _ _), h.below.setCell (p := ⟨g, 0, none⟩) (by dsimp only; omega) _, fun k hk h1 h2 => ((grown_put (grown_refl B (some g)) 0 v).block k (Nat.lt_of_lt_of_le hk h.below.size) (fun e => by have : k = g := Option.some.inj e; omega)).trans (h.block k hk h1 h2)⟩
theorem jn_end {Ti : Nat} {xs ys : List EnS} {w w9 W W' : World} {K : Nat → Prop} {pre : List (Int × Option ByteArray × Option ByteArray)} {i k : Nat} (hk : KeepP (fun g => g < w9.heap.size) w9 W) (h9 : w9.heap.size = Ti) (hB : Below w.heap.size w W) (hwT : w.heap.size ≤ Ti) (hc : ChI Ti W W') (hK : ∀ g, K g → g < Ti)
    (hi : i ≤ xs.length) (hk2 : k ≤ ys.length) (hst : pre ++ joinL ordI (xs.drop i) (ys.drop k) = joinL ordI xs ys) (bi : Blk W' Ti 3 #[.int .i64 i]) (bk : Blk W' (Ti + 1) 3 #[.int .i64 k]) :
    KeepsOthers W W' ∧ KeepP K W W' ∧ JnI Ti (Ti + 1) xs ys w9 pre W' ∧ Below w.heap.size w W' := by
  have hTW : Ti ≤ W.heap.size := by rw [← h9]; exact hk.size
  have hkk : ∀ K' : Nat → Prop, (∀ g, K' g → g < Ti) → KeepP K' W W' := fun K' hK' => ⟨hc.below.size, fun g hg => hc.block g (by have := hK' g hg; omega) (by have := hK' g hg; omega) (by have := hK' g hg; omega)⟩
  exact ⟨hc.others, hkk K hK, ⟨hk.trans (hkk _ (fun g hg => by rw [← h9]; exact hg)), i, k, hi, hk2, hst, bi, bk⟩, hB.trans (hc.below.mono hwT)⟩
set_option maxRecDepth 100000 in
theorem want15_any (w : World) (g : Nat) (k : Int) (v : ByteArray) (wanted : Int) (hg : w.cell? ⟨g, 0, none⟩ = some (.int .i64 wanted)) :
    Calls Try.prog 31 #[.int .i64 k, .string v, .pointer (some ⟨g, 0, none⟩)] w fun e w' => e = .returned (.bool (decide (wanted < k))) ∧ Below w.heap.size w w' := by
  go_enter Try.func31, Try.ntmps31
  go_wp2_with fail
  go_ret
  exact ⟨rfl, Below.refl _ _⟩
/-- behind the words of Join's iterator -/
def JnE (g0 R Tx Ty ba bb Ti Tk D : Nat) (wanted : Int) (ux uy : Value) (xs ys : List EnS) (i k : Int) (w W : World) : Prop :=
  JnZ g0 R Tx Ty ba bb wanted ux uy xs ys w W ∧ Blk W Ti 3 #[.int .i64 i] ∧ Blk W Tk 3 #[.int .i64 k] ∧ W.heap[D]? = some (.deferred (some []))
theorem JnE.below {g0 R Tx Ty ba bb Ti Tk D : Nat} {wanted : Int} {ux uy : Value} {xs ys : List EnS} {i k : Int} {w W W' : World} (h : JnE g0 R Tx Ty ba bb Ti Tk D wanted ux uy xs ys i k w W) (hb : Below W.heap.size W W') : JnE g0 R Tx Ty ba bb Ti Tk D wanted ux uy xs ys i k w W' :=
  ⟨h.1.below hb, h.2.1.below hb h.2.1.lt, h.2.2.1.below hb h.2.2.1.lt, (hb.block D (Array.getElem?_eq_some_iff.1 h.2.2.2).1).trans h.2.2.2⟩
set_option maxRecDepth 100000 in
set_option maxHeartbeats 8000000 in
theorem sortedJoins_main (w : World) (A1 A2 : Option Addr) (n1 c1 n2 c2 : Nat) (l1 l2 : List EnS) (wanted : Int) (hl1 : l1.length = n1) (hl2 : l2.length = n2) (hnc1 : n1 ≤ c1) (hnc2 : n2 ≤ c2) (hcm1 : c1 ≤ maxLen) (hcm2 : c2 ≤ maxLen) (hsl1 : SlOf w 2 eCIS A1 l1) (hsl2 : SlOf w 2 eCIS A2 l2) (hv1 : ∀ e ∈ l1, e.2.size ≤ maxLen) (hv2 : ∀ e ∈ l2, e.2.size ≤ maxLen) :
    Calls Try.prog 5 #[.slice A1 n1 c1, .slice A2 n2 c2, .int .i64 wanted] w fun e w' => e = .returned (.bool true) ∧ Below w.heap.size w w' := by
  have HCM := Lib.hid (And.intro hcm1 hcm2); clear hcm1 hcm2
  have HSL := Lib.hid (And.intro hsl1 hsl2); clear hsl1 hsl2
  have HVV := Lib.hid (And.intro hv1 hv2); clear hv1 hv2
  have HLN := Lib.hid (And.intro hl1 hl2); clear hl1 hl2
  have HLV := Lib.hid (fun W => lives15 W)
  obtain ⟨R, hR⟩ : ∃ R, w.heap.size + 1 = R := ⟨_, rfl⟩
  have hW0 := blk_fst w #[.int .i64 wanted] 3 (.cells #[.bool false] 4)
  have hR0 := blk_snd w (.cells #[.int .i64 wanted] 3) #[.bool false] 4
  have hb0 : Below w.heap.size w ((w.alloc (.cells #[.int .i64 wanted] 3)).alloc (.cells #[.bool false] 4)) := ((Below.refl w.heap.size w).alloc (Nat.le_refl _) _).alloc (by simp) _
  rw [hR] at hR0
  have H0 := Lib.hid (And.intro hW0 (And.intro hR0 hb0)); clear hW0 hR0 hb0
  refine callsIn_wide.1 (?_ : CallsIn Fence.wide 9 _ _ _ _ _)
  refine callsIn_of_wp_marks Try.func5 rfl trivial ?_ rfl
  simp only [Try.ntmps5, List.size_toArray, List.length_cons, List.length_nil, Nat.reduceAdd, Nat.reduceSub, Array.replicate_succ, Array.replicate_zero, List.push_toArray, List.append_toArray, List.nil_append, List.cons_append]
  have hfin : ∀ W, Blk W R 4 #[.bool true] → Below w.heap.size w W → True := fun _ _ _ => trivial
  clear hfin
  by_cases h30 : (30 : Int) < n1 ∨ (30 : Int) < n2
  · rcases Decidable.em ((30 : Int) < n1) with h1 | h1
    all_goals
      first | have h2 : (30 : Int) < n1 := h1 | have h2 : (30 : Int) < n2 := h30.resolve_left h1
      clear h30
      gi_wp2
      refine ⟨trivial, (callsIn_wide.2 (HLV.out _)).mono ?_⟩
      rintro e w1 ⟨rfl, hb⟩
      have HW := Lib.hid (And.intro (H0.out.2.1.below hb H0.out.2.1.lt) (H0.out.2.2.trans (hb.mono H0.out.2.2.size)))
      have r0 := HW.out.1.cell 0
      have p0 := HW.out.1.frozen 0
      simp at r0
      clear hb
      gi_wp2
      refine ⟨_, res_cellJ rfl _ _ R 4 (.bool true) rfl (HW.out.1.put 0 _) Try.underlying4, rfl, ?_⟩
      exact HW.out.2.setCell (p := ⟨R, 0, none⟩) (by dsimp only; omega) _
  · have h1 : ¬ (30 : Int) < n1 := fun h => h30 (.inl h)
    have h2 : ¬ (30 : Int) < n2 := fun h => h30 (.inr h)
    clear h30
    have hz2 : ((w.alloc (.cells #[.int .i64 wanted] 3)).alloc (.cells #[.bool false] 4)).heap.size = R + 1 := by rw [← hR]; simp
    have hz3 : (((w.alloc (.cells #[.int .i64 wanted] 3)).alloc (.cells #[.bool false] 4)).alloc (.cells #[] 40)).heap.size = R + 1 + 1 := by rw [← hR]; simp
    have hown0 : (((w.alloc (.cells #[.int .i64 wanted] 3)).alloc (.cells #[.bool false] 4)).alloc (.cells #[] 40)).ownsRow (R + 1) 40 2 (.slice (some ⟨R + 1, 0, none⟩) 0 0) 0 [] := by
      have := World.ownsRow_made (e := 40) (size := 2) (base := R + 1) ((w.alloc (.cells #[.int .i64 wanted] 3)).alloc (.cells #[.bool false] 4)) #[] 0 (by omega) (by decide) (by simp)
      rw [hz2] at this
      exact this
    have hb2 := (Below.refl _ ((w.alloc (.cells #[.int .i64 wanted] 3)).alloc (.cells #[.bool false] 4))).alloc (Nat.le_refl _) (.cells #[] 40)
    have hb3 := H0.out.2.2.trans (hb2.mono H0.out.2.2.size)
    have H1 := Lib.hid (And.intro hown0 (And.intro (H0.out.1.below hb2 H0.out.1.lt) (And.intro (H0.out.2.1.below hb2 H0.out.2.1.lt) hb3)))
    have HS1 := Lib.hid (show SlV (((w.alloc (.cells #[.int .i64 wanted] 3)).alloc (.cells #[.bool false] 4)).alloc (.cells #[] 40)) 2 eCIS (.slice A1 n1 c1) l1 from ⟨A1, c1, by rw [HLN.out.1], by rw [HLN.out.1]; exact hnc1, HCM.out.1, HSL.out.1.below hb3 (Nat.le_refl _)⟩)
    have HZ := Lib.hid hz3
    clear hown0 hb2 hb3 hz2 hz3 H0
    refine wpIn_wide.2 ?_
    go_wp2_with (first
      | (at_builtin; refine wpList_app_slv rfl (.tmp 37) (.tmp 38) 28 rfl (R + 1) 40 (.agg #[.int .i64 0, .string ⟨#[]⟩]) 2 24 Try.underlying28 infoE15 rfl (by decide) _ 0 [] rfl H1.out.1 eCIS eCIS_len eCIS_one _ l1 rfl HS1.out (by rw [HLN.out.1]; omega) (by decide) (by rw [HZ.out]; omega) ?_; intro v3 w3 hown3 hg3; have H3 := Lib.hid (And.intro hown3 hg3); clear hown3 hg3)
      | (at_builtin; refine wpList_app_slv rfl (.tmp 39) (.tmp 40) 28 rfl (R + 1) 40 (.agg #[.int .i64 0, .string ⟨#[]⟩]) 2 24 Try.underlying28 infoE15 rfl (by decide) _ (0 + l1.length) _ rfl H3.out.1 eCIS eCIS_len eCIS_one (.slice A2 n2 c2) l2 rfl ⟨A2, c2, by rw [HLN.out.2], by rw [HLN.out.2]; exact hnc2, HCM.out.2, HSL.out.2.below (H1.out.2.2.2.grown H3.out.2 H1.out.2.2.2.size (fun k hk => by have : R + 1 = k := Option.some.inj hk; omega)) (Nat.le_refl _)⟩ (by rw [HLN.out.1, HLN.out.2]; omega) (by decide) (by have := H3.out.2.size; rw [HZ.out] at this; omega) ?_; intro v4 w4 hown4 hg4; rw [HLN.out.1, HLN.out.2, Nat.zero_add] at hown4; obtain ⟨A4, c4, rfl, -, -, -⟩ := SlV_of_any hown4; have H4 := Lib.hid (And.intro hown4 hg4); clear hown4 hg4))
    have hb13 := H1.out.2.2.2.grown H3.out.2 H1.out.2.2.2.size (fun k hk => by have : R + 1 = k := Option.some.inj hk; omega)
    have hb14 := hb13.grown H4.out.2 hb13.size (fun k hk => by have := (H3.out.1.lt k hk).1; omega)
    have hnR : some R ≠ (Value.slice (some ⟨R + 1, 0, none⟩) 0 0).ownBlock := by simp [Value.ownBlock]
    have hnW : some w.heap.size ≠ (Value.slice (some ⟨R + 1, 0, none⟩) 0 0).ownBlock := by simp [Value.ownBlock]; omega
    have hW4 := (H1.out.2.1.grown H3.out.2 hnW).grown H4.out.2 (fun e => by have := (H3.out.1.lt _ e.symm).1; omega)
    have hR4 := (H1.out.2.2.1.grown H3.out.2 hnR).grown H4.out.2 (fun e => by have := (H3.out.1.lt _ e.symm).1; omega)
    have hS4 : SlV w4 2 eCIS (.slice A4 (n1 + n2) c4) (l1 ++ l2) := SlV.of_own (n := n1 + n2) (base := R + 1) (by have := H4.out.1; rw [List.nil_append, ← List.flatMap_append] at this; exact this) eCIS_len (by decide)
    have HL := Lib.hid (show (l1 ++ l2).length = n1 + n2 from by rw [List.length_append, HLN.out.1, HLN.out.2])
    obtain ⟨A4', c4', e4, -, -, hsl4⟩ := hS4
    obtain ⟨rfl, rfl⟩ : A4 = A4' ∧ c4 = c4' := by injection e4 with q1 q2 q3; exact ⟨q1, q3⟩
    have H5 := Lib.hid (And.intro hW4 (And.intro hR4 (And.intro hb14 hsl4))); clear hW4 hR4 hb13 hb14 hsl4 e4 hnR hnW H1 H3 H4 HS1 HZ
    refine (wpIn_wide (n := 9)).1 ?_
    gi_wp2
    gi_loopw [43] (fun iv wr => ∃ k : Nat, k ≤ n1 + n2 ∧ iv = .int .i64 k ∧ Below w4.heap.size w4 wr) (fun iv _ => n1 + n2 - (intOf iv).toNat)
    case atStart => exact ⟨0, Nat.zero_le _, rfl, Below.refl _ _⟩
    case round =>
      obtain ⟨k, hk, rfl, hbk⟩ := hrel
      by_cases hlt : k < n1 + n2
      · have hkl : k < (l1 ++ l2).length := by rw [HL.out]; exact hlt
        obtain ⟨gx, ox, rfl, hlx, hcx⟩ := (H5.out.2.2.2.below hbk (Nat.le_refl _)) (by omega)
        have d0 := hcx k hkl 0 (by omega)
        have d1 := hcx k hkl 1 (by omega)
        simp only [eCIS, List.getElem?_cons_succ, List.getElem?_cons_zero, Nat.add_zero] at d0 d1
        have hk1 : (k : Int) < n1 + n2 := by omega
        have hyv : (l1 ++ l2)[k].2.size ≤ maxLen := by
          rcases List.mem_append.1 (List.getElem_mem hkl) with h | h
          · exact HVV.out.1 _ h
          · exact HVV.out.2 _ h
        obtain ⟨y, hy⟩ : ∃ y, (l1 ++ l2)[k] = y := ⟨_, rfl⟩
        simp only [hy] at d0 d1 hyv
        unfold maxLen at hyv
        have HBK := Lib.hid hbk; clear hbk hcx hy
        by_cases hy5 : (50 : Int) < y.2.size
        · gi_wp2
          have hb5 := (Below.refl wr.heap.size wr).alloc (Nat.le_refl _) (.cells #[.int .i64 y.1, .string y.2] 40)
          have HX := Lib.hid (H5.out.2.2.1.trans ((HBK.out.trans (hb5.mono HBK.out.size)).mono H5.out.2.2.1.size))
          have HX2 := Lib.hid (H5.out.2.1.below (HBK.out.trans (hb5.mono HBK.out.size)) H5.out.2.1.lt)
          clear hb5
          refine ⟨trivial, (callsIn_wide.2 (HLV.out _)).mono ?_⟩
          rintro e w5 ⟨rfl, hb⟩
          have HW := Lib.hid (And.intro (HX2.out.below hb HX2.out.lt) (HX.out.trans (hb.mono HX.out.size)))
          have r0 := HW.out.1.cell 0
          have p0 := HW.out.1.frozen 0
          simp at r0
          clear hb
          gi_wp2
          refine ⟨_, res_cellJ rfl _ _ R 4 (.bool true) rfl (HW.out.1.put 0 _) Try.underlying4, rfl, ?_⟩
          exact HW.out.2.setCell (p := ⟨R, 0, none⟩) (by dsimp only; omega) _
        · gi_wp2
          refine ⟨⟨k + 1, by omega, by go_num, HBK.out.alloc HBK.out.size _⟩, by simp [intOf]; omega⟩
      · obtain rfl : k = n1 + n2 := by omega
        have HBK := Lib.hid hbk; clear hbk
        have hsa := HSL.out.1.below (H5.out.2.2.1.trans (HBK.out.mono H5.out.2.2.1.size)) (Nat.le_refl _)
        have HF1 := Lib.hid (filled15_any wr A1 n1 c1 l1 HLN.out.1 (by omega) hnc1 hsa)
        have H6 := Lib.hid (And.intro (H5.out.1.below HBK.out H5.out.1.lt) (And.intro (H5.out.2.1.below HBK.out H5.out.2.1.lt) (H5.out.2.2.1.trans (HBK.out.mono H5.out.2.2.1.size))))
        clear hsa H5 HBK
        gi_wp2
        refine (wpIn_wide (n := 9)).1 ?_
        gi_wp2
        refine ⟨trivial, (callsIn_wide.2 HF1.out).mono ?_⟩
        rintro e w5 ⟨ba, ux, rfl, hm5, ho5, hba5, hb5⟩
        obtain ⟨xs, hxs⟩ : ∃ xs, putL ordI l1 = xs := ⟨_, rfl⟩
        rw [hxs] at hm5 ho5
        have hxl : xs.length ≤ 30 := by rw [← hxs]; have := putL_length (c := ordI) l1; rw [HLN.out.1] at this; omega
        have hxu : Up ordI xs := by rw [← hxs]; exact putL_up ordI_ord l1
        obtain ⟨Bx, dx, rfl, -, -, -⟩ := SlV_of_any ho5
        have hba := (Below.refl w5.heap.size w5).alloc (Nat.le_refl _) (.cells #[.slice Bx xs.length dx] 28)
        have hb5' := hb5.trans (hba.mono hb5.size)
        have hsb := HSL.out.2.below (H6.out.2.2.trans (hb5'.mono H6.out.2.2.size)) (Nat.le_refl _)
        have HF2 := Lib.hid (filled15_any _ A2 n2 c2 l2 HLN.out.2 (by omega) hnc2 hsb)
        have H7 := Lib.hid (And.intro (H6.out.1.below hb5' H6.out.1.lt) (And.intro (H6.out.2.1.below hb5' H6.out.2.1.lt) (And.intro (H6.out.2.2.trans (hb5'.mono H6.out.2.2.size)) (And.intro (hm5.below hba) (And.intro ((Own15.zero ho5).below hba) (Blk.new w5 28 #[.slice Bx xs.length dx]))))))
        clear hsb hb5 hb5' hba hm5 ho5 hba5 H6 HF1 hxs
        obtain ⟨w6, hw6⟩ : ∃ w6, w5.alloc (.cells #[.slice Bx xs.length dx] 28) = w6 := ⟨_, rfl⟩
        obtain ⟨Tx, hTx⟩ : ∃ Tx, w5.heap.size = Tx := ⟨_, rfl⟩
        rw [hw6] at HF2 H7
        rw [hTx] at H7
        have HW6 := Lib.hid hw6; clear hw6
        obtain ⟨nx, hnx⟩ : ∃ nx, xs.length = nx := ⟨_, rfl⟩
        rw [hnx] at HW6 H7 hxl
        rw [hnx]
        have HNX := Lib.hid (And.intro hnx hxu); clear hnx hxu
        gi_wp2
        rw [HW6.out]
        refine ⟨trivial, (callsIn_wide.2 HF2.out).mono ?_⟩
        rintro e w7 ⟨bb, uy, rfl, hm7, ho7, hbb7, hb7⟩
        obtain ⟨ys, hys⟩ : ∃ ys, putL ordI l2 = ys := ⟨_, rfl⟩
        rw [hys] at hm7 ho7
        have hyl : ys.length ≤ 30 := by rw [← hys]; have := putL_length (c := ordI) l2; rw [HLN.out.2] at this; omega
        have hyu : Up ordI ys := by rw [← hys]; exact putL_up ordI_ord l2
        obtain ⟨By, dy, rfl, -, -, -⟩ := SlV_of_any ho7
        obtain ⟨ny, hny⟩ : ∃ ny, ys.length = ny := ⟨_, rfl⟩
        rw [hny] at hyl
        rw [hny]
        have hba := (Below.refl w7.heap.size w7).alloc (Nat.le_refl _) (.cells #[.slice By ny dy] 28)
        have hb7' := hb7.trans (hba.mono hb7.size)
        obtain ⟨w8, hw8⟩ : ∃ w8, w7.alloc (.cells #[.slice By ny dy] 28) = w8 := ⟨_, rfl⟩
        have hTb := Blk.new w7 28 #[.slice By ny dy]
        obtain ⟨Ty, hTy⟩ : ∃ Ty, w7.heap.size = Ty := ⟨_, rfl⟩
        rw [hw8] at hba hb7' hTb
        rw [hTy] at hTb
        have hz8 : JnZ w.heap.size R Tx Ty ba bb wanted (.slice Bx nx dx) (.slice By ny dy) xs ys w w8 :=
          ⟨H7.out.1.below hb7' H7.out.1.lt, H7.out.2.1.below hb7' H7.out.2.1.lt, H7.out.2.2.2.2.2.below hb7' H7.out.2.2.2.2.2.lt, hTb, H7.out.2.2.2.1.below hb7', hm7.below hba, H7.out.2.2.2.2.1.below hb7', by have := (Own15.zero ho7).below hba; rw [hny] at this; exact this, H7.out.2.2.1.trans (hb7'.mono H7.out.2.2.1.size)⟩
        have HJN := Lib.hid (joinIS_any w8 ba bb xs ys hz8.2.2.2.2.1 hz8.2.2.2.2.2.1)
        have HZ8 := Lib.hid hz8
        have HNY := Lib.hid (And.intro hny (And.intro hyu hys)); clear hny hyu hys hz8 hTb hba hb7' hb7 hm7 ho7 hbb7 H7 HF2
        have HW8 := Lib.hid hw8; clear hw8
        gi_wp2
        rw [HW8.out]
        refine ⟨trivial, (callsIn_wide.2 HJN.out).mono ?_⟩
        rintro e w9 ⟨b1, b2, b3, v1, v2, rfl, B1, B2, B3, L1, L2, lt1, lt2, hb9⟩
        have hnf : ∀ W, (binOp .eql 56 (.func (.func 59) #[] #[.pointer (some ⟨b1, 0, none⟩), .pointer (some ⟨b2, 0, none⟩), .pointer (some ⟨b3, 0, none⟩)]) Value.nilFunc).run Try.prog W = .ok (.bool false) W := fun W => rfl
        have HZ9 := Lib.hid (HZ8.out.below hb9)
        have HIT := Lib.hid (And.intro B1 (And.intro B2 (And.intro B3 (And.intro L1 (And.intro L2 (And.intro lt1 lt2))))))
        clear hb9 B1 B2 B3 L1 L2 lt1 lt2 HZ8 HJN
        obtain ⟨Ti, hTi⟩ : ∃ Ti, w9.heap.size = Ti := ⟨_, rfl⟩
        have hI1 := blk_fst w9 #[.int .i64 0] 3 (.cells #[.int .i64 0] 3)
        have hI2 := blk_snd w9 (.cells #[.int .i64 0] 3) #[.int .i64 0] 3
        have hzz : ((w9.alloc (.cells #[.int .i64 0] 3)).alloc (.cells #[.int .i64 0] 3)).heap.size = Ti + 1 + 1 := by rw [← hTi]; simp
        have hba := ((Below.refl w9.heap.size w9).alloc (Nat.le_refl _) (.cells #[.int .i64 0] 3)).alloc (by simp) (.cells #[.int .i64 0] 3)
        rw [hTi] at hI1 hI2
        obtain ⟨w10, hw10⟩ : ∃ w10, (w9.alloc (.cells #[.int .i64 0] 3)).alloc (.cells #[.int .i64 0] 3) = w10 := ⟨_, rfl⟩
        rw [hw10] at hI1 hI2 hzz hba
        have HW10 := Lib.hid hw10; clear hw10
        have h10 : JnI Ti (Ti + 1) xs ys w9 [] w10 := ⟨KeepP.below hba (fun g h => h), 0, 0, Nat.zero_le _, Nat.zero_le _, rfl, hI1, hI2⟩
        have hb10 := HZ9.out.2.2.2.2.2.2.2.2.trans (hba.mono HZ9.out.2.2.2.2.2.2.2.2.size)
        have hKK : ∀ g, JoinK b1 b2 b3 v1 v2 g → g < Ti := fun g hg => by
          rw [← hTi]
          rcases hg with rfl | rfl | rfl | h | h
          · exact HIT.out.1.lt
          · exact HIT.out.2.1.lt
          · exact HIT.out.2.2.1.lt
          · exact HIT.out.2.2.2.2.2.1 g h
          · exact HIT.out.2.2.2.2.2.2 g h
        have htl := joinIS_tells 8 (by omega) b1 b2 b3 v1 v2 xs ys w9 HIT.out.1 HIT.out.2.1 HIT.out.2.2.1 HIT.out.2.2.2.1 HIT.out.2.2.2.2.1 HIT.out.2.2.2.2.2.1 HIT.out.2.2.2.2.2.2 (by rw [HNX.out.1]; omega) (by rw [HNY.out.1]; omega) (fun _ _ => trivial) (fun _ _ => trivial)
        have HTL := Lib.hid htl
        have H10 := Lib.hid (And.intro h10 (And.intro hb10 (And.intro hKK hba))); clear h10 hb10 hKK hba htl hI1 hI2
        gi_wp2
        rw [HW10.out]
        have hwT : w.heap.size ≤ Ti := by rw [← hTi]; exact HZ9.out.2.2.2.2.2.2.2.2.size
        refine wpIn_rangeFunc_tellW (Mine := fun _ => False) (fun _ h => h.elim) rfl (by omega) (gf := 59) (lb := #[.pointer (some ⟨b1, 0, none⟩), .pointer (some ⟨b2, 0, none⟩), .pointer (some ⟨b3, 0, none⟩)]) rfl trivial (enters_of Try.func59 (by kernel_rfl) rfl)
          HTL.out KeepP.trans (keepP_b (fun g hg => by have := H10.out.2.2.1 g hg; omega)) H10.out.2.2.2 (fun _ => rfl)
          (fun pre W => JnI Ti (Ti + 1) xs ys w9 pre W ∧ Below w.heap.size w W)
          (fun c pre W => False)
          (OwnM.of_none (OwnFrom.and (JnI.own _ _ _ _ _ (by omega)) (ownFrom_below (Nat.le_refl _) (by omega))))
          (fun c s A B row hs _ _ => hs)
          ⟨H10.out.1, H10.out.2.1⟩
          ?a1 (fun x W => W.alloc (.cells #[.string (x.2.1.getD ⟨#[]⟩), .string (x.2.2.getD ⟨#[]⟩), .bool x.2.1.isSome, .bool x.2.2.isSome] 59))
          (fun x n0 pre W => (JnI Ti (Ti + 1) xs ys w9 pre W ∧ Below w.heap.size w W) ∧ (Ti + 1 < n0 ∧ Blk W n0 59 #[.string (x.2.1.getD ⟨#[]⟩), .string (x.2.2.getD ⟨#[]⟩), .bool x.2.1.isSome, .bool x.2.2.isSome]))
          (fun x n0 => OwnM.of_none (OwnFrom.and (OwnFrom.and (JnI.own _ _ _ _ _ (by omega)) (ownFrom_below (Nat.le_refl _) (by omega))) (fun s A B row hs hg hr => ⟨hs.1, blk_ownF hs.2 hg (fun r e => (hr r e).2)⟩)))
          ?hA ?assign ?body ?done ?stop
        case hA =>
          rintro pre x W ⟨⟨hk, i, k, hi, hk2, he, b1', b2'⟩, hB⟩ hT
          have hba := (Below.refl W.heap.size W).alloc (Nat.le_refl _) (.cells #[.string (x.2.1.getD ⟨#[]⟩), .string (x.2.2.getD ⟨#[]⟩), .bool x.2.1.isSome, .bool x.2.2.isSome] 59)
          have hlk := b2'.lt
          exact ⟨⟨⟨⟨hk.trans (KeepP.below hba (fun g hg => by have : g < w9.heap.size := hg; omega)), i, k, hi, hk2, he, b1'.below hba b1'.lt, b2'.below hba b2'.lt⟩, hB.trans (hba.mono hB.size)⟩, b2'.lt, Blk.new _ _ _⟩, keeps_belowF hba, KeepP.below hba (fun g hg => by have := H10.out.2.2.1 g hg; omega)⟩
        case assign =>
          intro l x n0 W hn K hK
          simp only [pCIS]
          gi_wp2
          exact hK
        case body =>
          rintro l pre x n0 W ⟨⟨⟨hk, i, k, hi, hk2, he, bi, bk⟩, hB⟩, hn0, bp⟩ hT
          have hz := HZ9.out.keptP hk hB
          have hKP := Lib.hid hk; clear hk
          rcases join_step xs ys pre x i k he hT with ⟨hix, rfl, hst, hlt⟩ | ⟨hkx, rfl, hst, hlt⟩ | ⟨hix, hkx, rfl, hst, heq⟩
          · have HST := Lib.hid hst; clear hst he hT
            have hsx := hz.2.2.2.2.2.2.1.slv
            obtain ⟨Bx', dx', ex, -, -, hslx⟩ := hsx
            obtain ⟨rfl, rfl⟩ : Bx = Bx' ∧ dx = dx' := by injection ex with q1 q2 q3; exact ⟨q1, q3⟩
            obtain ⟨gx, ox, rfl, hgx, hcx⟩ := hslx (by omega)
            have qx0 := hcx i hix 0 (by omega)
            have qx1 := hcx i hix 1 (by omega)
            simp only [eCIS, List.getElem?_cons_succ, List.getElem?_cons_zero, Nat.add_zero] at qx0 qx1
            obtain ⟨a, ha⟩ : ∃ a, xs[i] = a := ⟨_, rfl⟩
            simp only [ha] at qx0 qx1 hlt HST bp ⊢
            dsimp only [Option.getD, Option.isSome] at bp
            have HP := Lib.hid (show JnB w.heap.size R Tx Ty ba bb Ti (Ti + 1) n0 wanted (.slice (some ⟨gx, ox, none⟩) nx dx) (.slice By ny dy) xs ys i k #[.string a.2, .string ⟨#[]⟩, .bool true, .bool false] w W from ⟨hz, bi, bk, bp⟩)
            have hi1 : (i : Int) < nx := by rw [← HNX.out.1]; omega
            have hi2 : decide ((i : Int) < nx) = true := by rw [decide_eq_true_eq]; exact hi1
            have hi3 : decide (i < nx) = true := by rw [decide_eq_true_eq]; omega
            have HA := Lib.hid ha; clear ha
            have HB := Lib.hid hB
            have hTW : Ti ≤ W.heap.size := by have := bi.lt; omega
            clear hcx hslx ex bi bk bp hi hB hz
            have b0 := HP.out.1.2.2.1.cell 0
            have b1' := HP.out.1.2.2.2.1.cell 0
            have b2' := HP.out.2.1.cell 0
            have b3' := HP.out.2.2.1.cell 0
            simp at b0 b1' b2' b3'
            have k0 : ∀ m : Held (Aft W), (HeldW m).cell? ⟨Tx, 0, none⟩ = some (.slice (some ⟨gx, ox, none⟩) nx dx) := fun m => (Aft.cell m HP.out.1.2.2.1.lt).trans b0
            have k1 : ∀ m : Held (Aft W), (HeldW m).cell? ⟨Ty, 0, none⟩ = some (.slice By ny dy) := fun m => (Aft.cell m HP.out.1.2.2.2.1.lt).trans b1'
            have k2 : ∀ m : Held (Aft W), (HeldW m).cell? ⟨Ti, 0, none⟩ = some (.int .i64 i) := fun m => (Aft.cell m HP.out.2.1.lt).trans b2'
            have k3 : ∀ m : Held (Aft W), (HeldW m).cell? ⟨Ti + 1, 0, none⟩ = some (.int .i64 k) := fun m => (Aft.cell m HP.out.2.2.1.lt).trans b3'
            have k4 : ∀ m : Held (Aft W), (HeldW m).cell? ⟨gx, ox + i * 2, none⟩ = some (.int .i64 a.1) := fun m => (Aft.cell m hgx).trans qx0
            clear b0 b1' b2' b3'
            rcases Nat.lt_or_ge k ny with hkn | hkn
            · have hkl : k < ys.length := by rw [HNY.out.1]; exact hkn
              have hsy := HP.out.1.2.2.2.2.2.2.2.1.slv
              obtain ⟨By', dy', ey, -, -, hsly⟩ := hsy
              obtain ⟨rfl, rfl⟩ : By = By' ∧ dy = dy' := by injection ey with q1 q2 q3; exact ⟨q1, q3⟩
              obtain ⟨gy, oy, rfl, hgy, hcy⟩ := hsly (by omega)
              have qy0 := hcy k hkl 0 (by omega)
              simp only [eCIS, List.getElem?_cons_zero, Nat.add_zero] at qy0
              have hcmp := hlt hkl
              obtain ⟨b, hb⟩ : ∃ b, ys[k] = b := ⟨_, rfl⟩
              rw [hb] at qy0 hcmp
              have hab : a.1 < b.1 := (ordI_lt _ _).1 hcmp
              have t1 : (b.1 == a.1) = false := by rw [beq_eq_false_iff_ne]; omega
              have t2 : decide (b.1 < a.1) = false := by rw [decide_eq_false_iff_not]; omega
              have t3 : (a.1 == a.1) = true := by rw [beq_iff_eq]
              have k5 : ∀ m : Held (Aft W), (HeldW m).cell? ⟨gy, oy + k * 2, none⟩ = some (.int .i64 b.1) := fun m => (Aft.cell m hgy).trans qy0
              have j1 : (k : Int) < ny := by omega
              have j2 : decide ((k : Int) < ny) = true := by rw [decide_eq_true_eq]; exact j1
              have j3 : decide (k < ny) = true := by rw [decide_eq_true_eq]; exact hkn
              clear hcmp hb hcy hsly ey
              haveI := Aft.some W
              gi_wp2
              refine wp_region_classIn (Aft W) (by kernel_rfl) (by kernel_rfl) (by kernel_rfl) (Aft.start W) ?_
              repeat (gi_big_quiet_step (fail))
              refine wpQuietIn_nil ?_
              rintro _ ⟨nn, rfl⟩
              have hW1 : Below W.heap.size W (HeldW nn) := HeldW_spec nn
              generalize HeldW nn = W1 at *
              have HP1 := Lib.hid (HP.out.below hW1)
              have hgx1 : gx < W1.heap.size := Nat.lt_of_lt_of_le hgx hW1.size
              have hgy1 : gy < W1.heap.size := Nat.lt_of_lt_of_le hgy hW1.size
              have rx0 := (hW1.cell (p := ⟨gx, ox + i * 2 + 1, none⟩) hgx).trans qx1
              have ry0 := (hW1.cell (p := ⟨gy, oy + k * 2, none⟩) hgy).trans qy0
              have HW1 := Lib.hid hW1
              clear k0 k1 k2 k3 k4 k5 nn hW1
              have p0 := HP1.out.2.2.2.cell 0
              have p1 := HP1.out.2.2.2.cell 1
              have p2 := HP1.out.2.2.2.cell 2
              have p3 := HP1.out.2.2.2.cell 3
              simp at p0 p1 p2 p3
              have b0 := HP1.out.1.2.2.1.cell 0
              have b1' := HP1.out.1.2.2.2.1.cell 0
              have b2' := HP1.out.2.1.cell 0
              have b3' := HP1.out.2.2.1.cell 0
              simp at b0 b1' b2' b3'
              have k0 : ∀ m : Held (Aft W1), (HeldW m).cell? ⟨Tx, 0, none⟩ = some (.slice (some ⟨gx, ox, none⟩) nx dx) := fun m => (Aft.cell m HP1.out.1.2.2.1.lt).trans b0
              have k1 : ∀ m : Held (Aft W1), (HeldW m).cell? ⟨Ty, 0, none⟩ = some (.slice (some ⟨gy, oy, none⟩) ny dy) := fun m => (Aft.cell m HP1.out.1.2.2.2.1.lt).trans b1'
              have k2 : ∀ m : Held (Aft W1), (HeldW m).cell? ⟨Ti, 0, none⟩ = some (.int .i64 i) := fun m => (Aft.cell m HP1.out.2.1.lt).trans b2'
              have k3 : ∀ m : Held (Aft W1), (HeldW m).cell? ⟨Ti + 1, 0, none⟩ = some (.int .i64 k) := fun m => (Aft.cell m HP1.out.2.2.1.lt).trans b3'
              have k4 : ∀ m : Held (Aft W1), (HeldW m).cell? ⟨gx, ox + i * 2 + 1, none⟩ = some (.string a.2) := fun m => (Aft.cell m hgx1).trans rx0
              have k5 : ∀ m : Held (Aft W1), (HeldW m).cell? ⟨gy, oy + k * 2, none⟩ = some (.int .i64 b.1) := fun m => (Aft.cell m hgy1).trans ry0
              have k6 : ∀ m : Held (Aft W1), (HeldW m).cell? ⟨n0, 0, none⟩ = some (.string a.2) := fun m => (Aft.cell m HP1.out.2.2.2.lt).trans p0
              clear b0 b1' b2' b3'
              haveI := Aft.some W1
              gi_wp2
              refine wp_region_classIn (Aft W1) (by kernel_rfl) (by kernel_rfl) (by kernel_rfl) (Aft.start W1) ?_
              repeat (gi_big_quiet_step (fail))
              refine wpQuietIn_nil ?_
              rintro _ ⟨nn, rfl⟩
              have hW2 : Below W1.heap.size W1 (HeldW nn) := HeldW_spec nn
              generalize HeldW nn = W2 at *
              have HP2 := Lib.hid (HP1.out.below hW2)
              have HC2 := Lib.hid (((ChI.refl Ti W).step hTW HW1.out).step hTW hW2)
              clear k0 k1 k2 k3 k4 k5 k6 nn hW2 rx0 ry0 p0 p1 p2 p3
              have b2' := HP2.out.2.1.cell 0
              have f2 := HP2.out.2.1.frozen 0
              simp at b2'
              gi_wp2
              exact jn_end hKP.out hTi HB.out hwT (HC2.out.set Ti (.inl rfl) (.int .i64 ((i : Int) + 1))) H10.out.2.2.1 (i := i + 1) (k := k) (by have := HNX.out.1; omega) hk2 HST.out (by have := HP2.out.2.1.put 0 (.int .i64 ((i : Int) + 1)); simpa using this) (HP2.out.2.2.1.far (p := ⟨Ti, 0, none⟩) (by dsimp only; omega) _)
            · have j1 : ¬ ((k : Int) < ny) := by omega
              have j2 : decide ((k : Int) < ny) = false := by rw [decide_eq_false_iff_not]; exact j1
              have j3 : decide (k < ny) = false := by rw [decide_eq_false_iff_not]; omega
              have t3 : (a.1 == a.1) = true := by rw [beq_iff_eq]
              haveI := Aft.some W
              gi_wp2
              refine wp_region_classIn (Aft W) (by kernel_rfl) (by kernel_rfl) (by kernel_rfl) (Aft.start W) ?_
              repeat (gi_big_quiet_step (fail))
              refine wpQuietIn_nil ?_
              rintro _ ⟨nn, rfl⟩
              have hW1 : Below W.heap.size W (HeldW nn) := HeldW_spec nn
              generalize HeldW nn = W1 at *
              have HP1 := Lib.hid (HP.out.below hW1)
              have rx0 := (hW1.cell (p := ⟨gx, ox + i * 2 + 1, none⟩) hgx).trans qx1
              have hgx1 : gx < W1.heap.size := Nat.lt_of_lt_of_le hgx hW1.size
              have HW1 := Lib.hid hW1
              clear k0 k1 k2 k3 k4 nn hW1
              have p0 := HP1.out.2.2.2.cell 0
              have p1 := HP1.out.2.2.2.cell 1
              have p2 := HP1.out.2.2.2.cell 2
              have p3 := HP1.out.2.2.2.cell 3
              simp at p0 p1 p2 p3
              have b0 := HP1.out.1.2.2.1.cell 0
              have b1' := HP1.out.1.2.2.2.1.cell 0
              have b2' := HP1.out.2.1.cell 0
              have b3' := HP1.out.2.2.1.cell 0
              simp at b0 b1' b2' b3'
              have k0 : ∀ m : Held (Aft W1), (HeldW m).cell? ⟨Tx, 0, none⟩ = some (.slice (some ⟨gx, ox, none⟩) nx dx) := fun m => (Aft.cell m HP1.out.1.2.2.1.lt).trans b0
              have k1 : ∀ m : Held (Aft W1), (HeldW m).cell? ⟨Ty, 0, none⟩ = some (.slice By ny dy) := fun m => (Aft.cell m HP1.out.1.2.2.2.1.lt).trans b1'
              have k2 : ∀ m : Held (Aft W1), (HeldW m).cell? ⟨Ti, 0, none⟩ = some (.int .i64 (i)) := fun m => (Aft.cell m HP1.out.2.1.lt).trans b2'
              have k3 : ∀ m : Held (Aft W1), (HeldW m).cell? ⟨Ti + 1, 0, none⟩ = some (.int .i64 (k)) := fun m => (Aft.cell m HP1.out.2.2.1.lt).trans b3'
              have k4 : ∀ m : Held (Aft W1), (HeldW m).cell? ⟨gx, ox + i * 2 + 1, none⟩ = some (.string a.2) := fun m => (Aft.cell m hgx1).trans rx0
              have k5 : ∀ m : Held (Aft W1), (HeldW m).cell? ⟨n0, 0, none⟩ = some (.string a.2) := fun m => (Aft.cell m HP1.out.2.2.2.lt).trans p0
              clear b0 b1' b2' b3'
              haveI := Aft.some W1
              gi_wp2
              refine wp_region_classIn (Aft W1) (by kernel_rfl) (by kernel_rfl) (by kernel_rfl) (Aft.start W1) ?_
              repeat (gi_big_quiet_step (fail))
              refine wpQuietIn_nil ?_
              rintro _ ⟨nn, rfl⟩
              have hW2 : Below W1.heap.size W1 (HeldW nn) := HeldW_spec nn
              generalize HeldW nn = W2 at *
              have HP2 := Lib.hid (HP1.out.below hW2)
              have HW2 := Lib.hid hW2
              have HC2 := Lib.hid (((ChI.refl Ti W).step hTW HW1.out).step hTW hW2)
              clear k0 k1 k2 k3 k4 k5 nn hW2 rx0 p0 p1 p2 p3
              have b2' := HP2.out.2.1.cell 0
              have f2 := HP2.out.2.1.frozen 0
              simp at b2'
              gi_wp2
              exact jn_end hKP.out hTi HB.out hwT (HC2.out.set Ti (.inl rfl) (.int .i64 ((i : Int) + 1))) H10.out.2.2.1 (i := i + 1) (k := k) (by have := HNX.out.1; omega) hk2 HST.out (by have := HP2.out.2.1.put 0 (.int .i64 ((i : Int) + 1)); simpa using this) (HP2.out.2.2.1.far (p := ⟨Ti, 0, none⟩) (by dsimp only; omega) _)
          · have HST := Lib.hid hst; clear hst he hT
            have hsy := hz.2.2.2.2.2.2.2.1.slv
            obtain ⟨By', dy', ey, -, -, hsly⟩ := hsy
            obtain ⟨rfl, rfl⟩ : By = By' ∧ dy = dy' := by injection ey with q1 q2 q3; exact ⟨q1, q3⟩
            obtain ⟨gy, oy, rfl, hgy, hcy⟩ := hsly (by omega)
            have qy0 := hcy k hkx 0 (by omega)
            have qy1 := hcy k hkx 1 (by omega)
            simp only [eCIS, List.getElem?_cons_succ, List.getElem?_cons_zero, Nat.add_zero] at qy0 qy1
            obtain ⟨b, hb⟩ : ∃ b, ys[k] = b := ⟨_, rfl⟩
            simp only [hb] at qy0 qy1 hlt HST bp ⊢
            dsimp only [Option.getD, Option.isSome] at bp
            have HP := Lib.hid (show JnB w.heap.size R Tx Ty ba bb Ti (Ti + 1) n0 wanted (.slice Bx nx dx) (.slice (some ⟨gy, oy, none⟩) ny dy) xs ys i k #[.string ⟨#[]⟩, .string b.2, .bool false, .bool true] w W from ⟨hz, bi, bk, bp⟩)
            have j1 : (k : Int) < ny := by rw [← HNY.out.1]; omega
            have j2 : decide ((k : Int) < ny) = true := by rw [decide_eq_true_eq]; exact j1
            have j3 : decide (k < ny) = true := by rw [decide_eq_true_eq]; omega
            have t3 : (b.1 == b.1) = true := by rw [beq_iff_eq]
            have HBB := Lib.hid hb; clear hb
            have HB := Lib.hid hB
            have hTW : Ti ≤ W.heap.size := by have := bi.lt; omega
            clear hcy hsly ey bi bk bp hk2 hB
            rcases Nat.lt_or_ge i nx with hin | hin
            · have hil : i < xs.length := by rw [HNX.out.1]; exact hin
              have hsx := HP.out.1.2.2.2.2.2.2.1.slv
              obtain ⟨Bx', dx', ex, -, -, hslx⟩ := hsx
              obtain ⟨rfl, rfl⟩ : Bx = Bx' ∧ dx = dx' := by injection ex with q1 q2 q3; exact ⟨q1, q3⟩
              obtain ⟨gx, ox, rfl, hgx, hcx⟩ := hslx (by omega)
              have qx0 := hcx i hil 0 (by omega)
              simp only [eCIS, List.getElem?_cons_zero, Nat.add_zero] at qx0
              have hcmp := hlt hil
              obtain ⟨a, ha⟩ : ∃ a, xs[i] = a := ⟨_, rfl⟩
              rw [ha] at qx0 hcmp
              have hab : b.1 < a.1 := (ordI_lt _ _).1 (by rw [ordI_neg]; omega)
              have t1 : (a.1 == b.1) = false := by rw [beq_eq_false_iff_ne]; omega
              have t2 : decide (a.1 < b.1) = false := by rw [decide_eq_false_iff_not]; omega
              have i1 : (i : Int) < nx := by omega
              have i2 : decide ((i : Int) < nx) = true := by rw [decide_eq_true_eq]; exact i1
              have i3 : decide (i < nx) = true := by rw [decide_eq_true_eq]; exact hin
              clear hcmp ha hcx hslx ex hz
              have b0 := HP.out.1.2.2.1.cell 0
              have b1' := HP.out.1.2.2.2.1.cell 0
              have b2' := HP.out.2.1.cell 0
              have b3' := HP.out.2.2.1.cell 0
              simp at b0 b1' b2' b3'
              have k0 : ∀ m : Held (Aft W), (HeldW m).cell? ⟨Tx, 0, none⟩ = some (.slice (some ⟨gx, ox, none⟩) nx dx) := fun m => (Aft.cell m HP.out.1.2.2.1.lt).trans b0
              have k1 : ∀ m : Held (Aft W), (HeldW m).cell? ⟨Ty, 0, none⟩ = some (.slice (some ⟨gy, oy, none⟩) ny dy) := fun m => (Aft.cell m HP.out.1.2.2.2.1.lt).trans b1'
              have k2 : ∀ m : Held (Aft W), (HeldW m).cell? ⟨Ti, 0, none⟩ = some (.int .i64 (i)) := fun m => (Aft.cell m HP.out.2.1.lt).trans b2'
              have k3 : ∀ m : Held (Aft W), (HeldW m).cell? ⟨Ti + 1, 0, none⟩ = some (.int .i64 (k)) := fun m => (Aft.cell m HP.out.2.2.1.lt).trans b3'
              have k4 : ∀ m : Held (Aft W), (HeldW m).cell? ⟨gy, oy + k * 2, none⟩ = some (.int .i64 b.1) := fun m => (Aft.cell m hgy).trans qy0
              have k5 : ∀ m : Held (Aft W), (HeldW m).cell? ⟨gx, ox + i * 2, none⟩ = some (.int .i64 a.1) := fun m => (Aft.cell m hgx).trans qx0
              clear b0 b1' b2' b3'
              haveI := Aft.some W
              gi_wp2
              refine wp_region_classIn (Aft W) (by kernel_rfl) (by kernel_rfl) (by kernel_rfl) (Aft.start W) ?_
              repeat (gi_big_quiet_step (fail))
              refine wpQuietIn_nil ?_
              rintro _ ⟨nn, rfl⟩
              have hW1 : Below W.heap.size W (HeldW nn) := HeldW_spec nn
              generalize HeldW nn = W1 at *
              have HP1 := Lib.hid (HP.out.below hW1)
              have ry0 := (hW1.cell (p := ⟨gy, oy + k * 2 + 1, none⟩) hgy).trans qy1
              have hgy1 : gy < W1.heap.size := Nat.lt_of_lt_of_le hgy hW1.size
              have rx0 := (hW1.cell (p := ⟨gx, ox + i * 2, none⟩) hgx).trans qx0
              have hgx1 : gx < W1.heap.size := Nat.lt_of_lt_of_le hgx hW1.size
              have HW1 := Lib.hid hW1
              clear k0 k1 k2 k3 k4 k5 nn hW1
              have p0 := HP1.out.2.2.2.cell 0
              have p1 := HP1.out.2.2.2.cell 1
              have p2 := HP1.out.2.2.2.cell 2
              have p3 := HP1.out.2.2.2.cell 3
              simp at p0 p1 p2 p3
              have b0 := HP1.out.1.2.2.1.cell 0
              have b1' := HP1.out.1.2.2.2.1.cell 0
              have b2' := HP1.out.2.1.cell 0
              have b3' := HP1.out.2.2.1.cell 0
              simp at b0 b1' b2' b3'
              have k0 : ∀ m : Held (Aft W1), (HeldW m).cell? ⟨Tx, 0, none⟩ = some (.slice (some ⟨gx, ox, none⟩) nx dx) := fun m => (Aft.cell m HP1.out.1.2.2.1.lt).trans b0
              have k1 : ∀ m : Held (Aft W1), (HeldW m).cell? ⟨Ty, 0, none⟩ = some (.slice (some ⟨gy, oy, none⟩) ny dy) := fun m => (Aft.cell m HP1.out.1.2.2.2.1.lt).trans b1'
              have k2 : ∀ m : Held (Aft W1), (HeldW m).cell? ⟨Ti, 0, none⟩ = some (.int .i64 (i)) := fun m => (Aft.cell m HP1.out.2.1.lt).trans b2'
              have k3 : ∀ m : Held (Aft W1), (HeldW m).cell? ⟨Ti + 1, 0, none⟩ = some (.int .i64 (k)) := fun m => (Aft.cell m HP1.out.2.2.1.lt).trans b3'
              have k4 : ∀ m : Held (Aft W1), (HeldW m).cell? ⟨gy, oy + k * 2 + 1, none⟩ = some (.string b.2) := fun m => (Aft.cell m hgy1).trans ry0
              have k5 : ∀ m : Held (Aft W1), (HeldW m).cell? ⟨gx, ox + i * 2, none⟩ = some (.int .i64 a.1) := fun m => (Aft.cell m hgx1).trans rx0
              have k6 : ∀ m : Held (Aft W1), (HeldW m).cell? ⟨n0, 1, none⟩ = some (.string b.2) := fun m => (Aft.cell m HP1.out.2.2.2.lt).trans p1
              clear b0 b1' b2' b3'
              haveI := Aft.some W1
              gi_wp2
              refine wp_region_classIn (Aft W1) (by kernel_rfl) (by kernel_rfl) (by kernel_rfl) (Aft.start W1) ?_
              repeat (gi_big_quiet_step (fail))
              refine wpQuietIn_nil ?_
              rintro _ ⟨nn, rfl⟩
              have hW2 : Below W1.heap.size W1 (HeldW nn) := HeldW_spec nn
              generalize HeldW nn = W2 at *
              have HP2 := Lib.hid (HP1.out.below hW2)
              have HW2 := Lib.hid hW2
              clear k0 k1 k2 k3 k4 k5 k6 rx0 ry0 p0 p1 p2 p3
              have HC2 := Lib.hid (((ChI.refl Ti W).step hTW HW1.out).step hTW hW2)
              have b3' := HP2.out.2.2.1.cell 0
              have f3 := HP2.out.2.2.1.frozen 0
              simp at b3'
              clear hW2 nn
              gi_wp2
              exact jn_end hKP.out hTi HB.out hwT (HC2.out.set (Ti + 1) (.inr rfl) (.int .i64 ((k : Int) + 1))) H10.out.2.2.1 (i := i) (k := k + 1) hi (by have := HNY.out.1; omega) HST.out (HP2.out.2.1.far (p := ⟨Ti + 1, 0, none⟩) (by dsimp only; omega) _) (by have := HP2.out.2.2.1.put 0 (.int .i64 ((k : Int) + 1)); simpa using this)
            · have i1 : ¬ ((i : Int) < nx) := by omega
              have i2 : decide ((i : Int) < nx) = false := by rw [decide_eq_false_iff_not]; exact i1
              have i3 : decide (i < nx) = false := by rw [decide_eq_false_iff_not]; omega
              clear hz
              have b0 := HP.out.1.2.2.1.cell 0
              have b1' := HP.out.1.2.2.2.1.cell 0
              have b2' := HP.out.2.1.cell 0
              have b3' := HP.out.2.2.1.cell 0
              simp at b0 b1' b2' b3'
              have k0 : ∀ m : Held (Aft W), (HeldW m).cell? ⟨Tx, 0, none⟩ = some (.slice Bx nx dx) := fun m => (Aft.cell m HP.out.1.2.2.1.lt).trans b0
              have k1 : ∀ m : Held (Aft W), (HeldW m).cell? ⟨Ty, 0, none⟩ = some (.slice (some ⟨gy, oy, none⟩) ny dy) := fun m => (Aft.cell m HP.out.1.2.2.2.1.lt).trans b1'
              have k2 : ∀ m : Held (Aft W), (HeldW m).cell? ⟨Ti, 0, none⟩ = some (.int .i64 (i)) := fun m => (Aft.cell m HP.out.2.1.lt).trans b2'
              have k3 : ∀ m : Held (Aft W), (HeldW m).cell? ⟨Ti + 1, 0, none⟩ = some (.int .i64 (k)) := fun m => (Aft.cell m HP.out.2.2.1.lt).trans b3'
              have k4 : ∀ m : Held (Aft W), (HeldW m).cell? ⟨gy, oy + k * 2, none⟩ = some (.int .i64 b.1) := fun m => (Aft.cell m hgy).trans qy0
              clear b0 b1' b2' b3'
              haveI := Aft.some W
              gi_wp2
              refine wp_region_classIn (Aft W) (by kernel_rfl) (by kernel_rfl) (by kernel_rfl) (Aft.start W) ?_
              repeat (gi_big_quiet_step (fail))
              refine wpQuietIn_nil ?_
              rintro _ ⟨nn, rfl⟩
              have hW1 : Below W.heap.size W (HeldW nn) := HeldW_spec nn
              generalize HeldW nn = W1 at *
              have HP1 := Lib.hid (HP.out.below hW1)
              have ry0 := (hW1.cell (p := ⟨gy, oy + k * 2 + 1, none⟩) hgy).trans qy1
              have hgy1 : gy < W1.heap.size := Nat.lt_of_lt_of_le hgy hW1.size
              have HW1 := Lib.hid hW1
              clear k0 k1 k2 k3 k4 nn hW1
              have p0 := HP1.out.2.2.2.cell 0
              have p1 := HP1.out.2.2.2.cell 1
              have p2 := HP1.out.2.2.2.cell 2
              have p3 := HP1.out.2.2.2.cell 3
              simp at p0 p1 p2 p3
              have b0 := HP1.out.1.2.2.1.cell 0
              have b1' := HP1.out.1.2.2.2.1.cell 0
              have b2' := HP1.out.2.1.cell 0
              have b3' := HP1.out.2.2.1.cell 0
              simp at b0 b1' b2' b3'
              have k0 : ∀ m : Held (Aft W1), (HeldW m).cell? ⟨Tx, 0, none⟩ = some (.slice Bx nx dx) := fun m => (Aft.cell m HP1.out.1.2.2.1.lt).trans b0
              have k1 : ∀ m : Held (Aft W1), (HeldW m).cell? ⟨Ty, 0, none⟩ = some (.slice (some ⟨gy, oy, none⟩) ny dy) := fun m => (Aft.cell m HP1.out.1.2.2.2.1.lt).trans b1'
              have k2 : ∀ m : Held (Aft W1), (HeldW m).cell? ⟨Ti, 0, none⟩ = some (.int .i64 (i)) := fun m => (Aft.cell m HP1.out.2.1.lt).trans b2'
              have k3 : ∀ m : Held (Aft W1), (HeldW m).cell? ⟨Ti + 1, 0, none⟩ = some (.int .i64 (k)) := fun m => (Aft.cell m HP1.out.2.2.1.lt).trans b3'
              have k4 : ∀ m : Held (Aft W1), (HeldW m).cell? ⟨gy, oy + k * 2 + 1, none⟩ = some (.string b.2) := fun m => (Aft.cell m hgy1).trans ry0
              have k5 : ∀ m : Held (Aft W1), (HeldW m).cell? ⟨n0, 1, none⟩ = some (.string b.2) := fun m => (Aft.cell m HP1.out.2.2.2.lt).trans p1
              clear b0 b1' b2' b3'
              haveI := Aft.some W1
              gi_wp2
              refine wp_region_classIn (Aft W1) (by kernel_rfl) (by kernel_rfl) (by kernel_rfl) (Aft.start W1) ?_
              repeat (gi_big_quiet_step (fail))
              refine wpQuietIn_nil ?_
              rintro _ ⟨nn, rfl⟩
              have hW2 : Below W1.heap.size W1 (HeldW nn) := HeldW_spec nn
              generalize HeldW nn = W2 at *
              have HP2 := Lib.hid (HP1.out.below hW2)
              have HW2 := Lib.hid hW2
              clear k0 k1 k2 k3 k4 k5 ry0 p0 p1 p2 p3
              have HC2 := Lib.hid (((ChI.refl Ti W).step hTW HW1.out).step hTW hW2)
              have b3' := HP2.out.2.2.1.cell 0
              have f3 := HP2.out.2.2.1.frozen 0
              simp at b3'
              clear hW2 nn
              gi_wp2
              exact jn_end hKP.out hTi HB.out hwT (HC2.out.set (Ti + 1) (.inr rfl) (.int .i64 ((k : Int) + 1))) H10.out.2.2.1 (i := i) (k := k + 1) hi (by have := HNY.out.1; omega) HST.out (HP2.out.2.1.far (p := ⟨Ti + 1, 0, none⟩) (by dsimp only; omega) _) (by have := HP2.out.2.2.1.put 0 (.int .i64 ((k : Int) + 1)); simpa using this)
          · have HST := Lib.hid hst; clear hst he hT
            have hsx := hz.2.2.2.2.2.2.1.slv
            obtain ⟨Bx', dx', ex, -, -, hslx⟩ := hsx
            obtain ⟨rfl, rfl⟩ : Bx = Bx' ∧ dx = dx' := by injection ex with q1 q2 q3; exact ⟨q1, q3⟩
            obtain ⟨gx, ox, rfl, hgx, hcx⟩ := hslx (by omega)
            have hsy := hz.2.2.2.2.2.2.2.1.slv
            obtain ⟨By', dy', ey, -, -, hsly⟩ := hsy
            obtain ⟨rfl, rfl⟩ : By = By' ∧ dy = dy' := by injection ey with q1 q2 q3; exact ⟨q1, q3⟩
            obtain ⟨gy, oy, rfl, hgy, hcy⟩ := hsly (by omega)
            have qx0 := hcx i hix 0 (by omega)
            have qx1 := hcx i hix 1 (by omega)
            have qy0 := hcy k hkx 0 (by omega)
            have qy1 := hcy k hkx 1 (by omega)
            simp only [eCIS, List.getElem?_cons_succ, List.getElem?_cons_zero, Nat.add_zero] at qx0 qx1 qy0 qy1
            have hab := (ordI_eq _ _).1 heq
            have hnext : ∀ h : i + 1 < xs.length, xs[i].1 < xs[i + 1].1 := fun h => (ordI_lt _ _).1 (List.pairwise_iff_getElem.1 HNX.out.2 i (i + 1) hix h (Nat.lt_succ_self i))
            obtain ⟨a, ha⟩ : ∃ a, xs[i] = a := ⟨_, rfl⟩
            obtain ⟨b, hb⟩ : ∃ b, ys[k] = b := ⟨_, rfl⟩
            simp only [ha, hb] at qx0 qx1 qy0 qy1 hab hnext HST bp ⊢
            dsimp only [Option.getD, Option.isSome] at bp
            rw [hab] at qx0 hnext
            have HP := Lib.hid (show JnB w.heap.size R Tx Ty ba bb Ti (Ti + 1) n0 wanted (.slice (some ⟨gx, ox, none⟩) nx dx) (.slice (some ⟨gy, oy, none⟩) ny dy) xs ys i k #[.string a.2, .string b.2, .bool true, .bool true] w W from ⟨hz, bi, bk, bp⟩)
            have i1 : (i : Int) < nx := by rw [← HNX.out.1]; omega
            have i2 : decide ((i : Int) < nx) = true := by rw [decide_eq_true_eq]; exact i1
            have i3 : decide (i < nx) = true := by rw [decide_eq_true_eq]; omega
            have j1 : (k : Int) < ny := by rw [← HNY.out.1]; omega
            have j2 : decide ((k : Int) < ny) = true := by rw [decide_eq_true_eq]; exact j1
            have j3 : decide (k < ny) = true := by rw [decide_eq_true_eq]; omega
            have t3 : (b.1 == b.1) = true := by rw [beq_iff_eq]
            have t2 : decide (b.1 < b.1) = false := by rw [decide_eq_false_iff_not]; omega
            have HCX := Lib.hid hcx
            have HAB := Lib.hid (And.intro ha hb); clear ha hb
            have HNEXT := Lib.hid hnext
            have HB := Lib.hid hB
            have hTW : Ti ≤ W.heap.size := by have := bi.lt; omega
            clear hcx hcy hslx hsly ex ey bi bk bp hi hk2 hB hz heq hab hnext
            have b0 := HP.out.1.2.2.1.cell 0
            have b1' := HP.out.1.2.2.2.1.cell 0
            have b2' := HP.out.2.1.cell 0
            have b3' := HP.out.2.2.1.cell 0
            simp at b0 b1' b2' b3'
            have k0 : ∀ m : Held (Aft W), (HeldW m).cell? ⟨Tx, 0, none⟩ = some (.slice (some ⟨gx, ox, none⟩) nx dx) := fun m => (Aft.cell m HP.out.1.2.2.1.lt).trans b0
            have k1 : ∀ m : Held (Aft W), (HeldW m).cell? ⟨Ty, 0, none⟩ = some (.slice (some ⟨gy, oy, none⟩) ny dy) := fun m => (Aft.cell m HP.out.1.2.2.2.1.lt).trans b1'
            have k2 : ∀ m : Held (Aft W), (HeldW m).cell? ⟨Ti, 0, none⟩ = some (.int .i64 (i)) := fun m => (Aft.cell m HP.out.2.1.lt).trans b2'
            have k3 : ∀ m : Held (Aft W), (HeldW m).cell? ⟨Ti + 1, 0, none⟩ = some (.int .i64 (k)) := fun m => (Aft.cell m HP.out.2.2.1.lt).trans b3'
            have k4 : ∀ m : Held (Aft W), (HeldW m).cell? ⟨gy, oy + k * 2, none⟩ = some (.int .i64 b.1) := fun m => (Aft.cell m hgy).trans qy0
            have k5 : ∀ m : Held (Aft W), (HeldW m).cell? ⟨gx, ox + i * 2, none⟩ = some (.int .i64 b.1) := fun m => (Aft.cell m hgx).trans qx0
            clear b0 b1' b2' b3'
            haveI := Aft.some W
            gi_wp2
            refine wp_region_classIn (Aft W) (by kernel_rfl) (by kernel_rfl) (by kernel_rfl) (Aft.start W) ?_
            repeat (gi_big_quiet_step (fail))
            refine wpQuietIn_nil ?_
            rintro _ ⟨nn, rfl⟩
            have hW1 : Below W.heap.size W (HeldW nn) := HeldW_spec nn
            generalize HeldW nn = W1 at *
            have HP1 := Lib.hid (HP.out.below hW1)
            have ry0 := (hW1.cell (p := ⟨gy, oy + k * 2, none⟩) hgy).trans qy0
            have hgy1 : gy < W1.heap.size := Nat.lt_of_lt_of_le hgy hW1.size
            have ry1 := (hW1.cell (p := ⟨gy, oy + k * 2 + 1, none⟩) hgy).trans qy1
            have rx0 := (hW1.cell (p := ⟨gx, ox + i * 2 + 1, none⟩) hgx).trans qx1
            have hgx1 : gx < W1.heap.size := Nat.lt_of_lt_of_le hgx hW1.size
            have HW1 := Lib.hid hW1
            clear k0 k1 k2 k3 k4 k5 nn hW1
            have p0 := HP1.out.2.2.2.cell 0
            have p1 := HP1.out.2.2.2.cell 1
            have p2 := HP1.out.2.2.2.cell 2
            have p3 := HP1.out.2.2.2.cell 3
            simp at p0 p1 p2 p3
            have b0 := HP1.out.1.2.2.1.cell 0
            have b1' := HP1.out.1.2.2.2.1.cell 0
            have b2' := HP1.out.2.1.cell 0
            have b3' := HP1.out.2.2.1.cell 0
            simp at b0 b1' b2' b3'
            have k0 : ∀ m : Held (Aft W1), (HeldW m).cell? ⟨Tx, 0, none⟩ = some (.slice (some ⟨gx, ox, none⟩) nx dx) := fun m => (Aft.cell m HP1.out.1.2.2.1.lt).trans b0
            have k1 : ∀ m : Held (Aft W1), (HeldW m).cell? ⟨Ty, 0, none⟩ = some (.slice (some ⟨gy, oy, none⟩) ny dy) := fun m => (Aft.cell m HP1.out.1.2.2.2.1.lt).trans b1'
            have k2 : ∀ m : Held (Aft W1), (HeldW m).cell? ⟨Ti, 0, none⟩ = some (.int .i64 (i)) := fun m => (Aft.cell m HP1.out.2.1.lt).trans b2'
            have k3 : ∀ m : Held (Aft W1), (HeldW m).cell? ⟨Ti + 1, 0, none⟩ = some (.int .i64 (k)) := fun m => (Aft.cell m HP1.out.2.2.1.lt).trans b3'
            have k4 : ∀ m : Held (Aft W1), (HeldW m).cell? ⟨gx, ox + i * 2 + 1, none⟩ = some (.string a.2) := fun m => (Aft.cell m hgx1).trans rx0
            have k5 : ∀ m : Held (Aft W1), (HeldW m).cell? ⟨gy, oy + k * 2, none⟩ = some (.int .i64 b.1) := fun m => (Aft.cell m hgy1).trans ry0
            have k6 : ∀ m : Held (Aft W1), (HeldW m).cell? ⟨n0, 0, none⟩ = some (.string a.2) := fun m => (Aft.cell m HP1.out.2.2.2.lt).trans p0
            clear b0 b1' b2' b3'
            haveI := Aft.some W1
            gi_wp2
            refine wp_region_classIn (Aft W1) (by kernel_rfl) (by kernel_rfl) (by kernel_rfl) (Aft.start W1) ?_
            repeat (gi_big_quiet_step (fail))
            refine wpQuietIn_nil ?_
            rintro _ ⟨nn, rfl⟩
            have hW2 : Below W1.heap.size W1 (HeldW nn) := HeldW_spec nn
            generalize HeldW nn = W2 at *
            have HP2 := Lib.hid (HP1.out.below hW2)
            have sy1 := (hW2.cell (p := ⟨gy, oy + k * 2 + 1, none⟩) hgy1).trans ry1
            have hgy2 : gy < W2.heap.size := Nat.lt_of_lt_of_le hgy1 hW2.size
            have HW2 := Lib.hid hW2
            clear k0 k1 k2 k3 k4 k5 k6 nn rx0 ry0 ry1 p0 p1 p2 p3
            have HC2 := Lib.hid (((ChI.refl Ti W).step hTW HW1.out).step hTW hW2)
            have b2' := HP2.out.2.1.cell 0
            have f2 := HP2.out.2.1.frozen 0
            simp at b2'
            clear hW2
            have hHP3 : JnB w.heap.size R Tx Ty ba bb Ti (Ti + 1) n0 wanted (.slice (some ⟨gx, ox, none⟩) nx dx) (.slice (some ⟨gy, oy, none⟩) ny dy) xs ys ((i : Int) + 1) k #[.string a.2, .string b.2, .bool true, .bool true] w (W2.setCell ⟨Ti, 0, none⟩ (.int .i64 ((i : Int) + 1))) := by
              have hcs := HC2.out.set Ti (.inl rfl) (.int .i64 ((i : Int) + 1))
              have hkk : KeepP (fun g => g < w9.heap.size) w9 (W2.setCell ⟨Ti, 0, none⟩ (.int .i64 ((i : Int) + 1))) := hKP.out.trans ⟨hcs.below.size, fun g hg => hcs.block g (by have : g < w9.heap.size := hg; omega) (by have : g < w9.heap.size := hg; omega) (by have : g < w9.heap.size := hg; omega)⟩
              exact ⟨HZ9.out.keptP hkk (HB.out.trans (hcs.below.mono hwT)), by have := HP2.out.2.1.put 0 (.int .i64 ((i : Int) + 1)); simpa using this, HP2.out.2.2.1.far (p := ⟨Ti, 0, none⟩) (by dsimp only; omega) _, HP2.out.2.2.2.far (p := ⟨Ti, 0, none⟩) (by dsimp only; omega) _⟩
            have hC3 := HC2.out.set Ti (.inl rfl) (.int .i64 ((i : Int) + 1))
            have HP3 := Lib.hid hHP3
            have HC3 := Lib.hid hC3
            obtain ⟨W3, hW3⟩ : ∃ W3, W2.setCell ⟨Ti, 0, none⟩ (.int .i64 ((i : Int) + 1)) = W3 := ⟨_, rfl⟩
            rw [hW3] at HP3 HC3
            clear hHP3 hC3
            have hsy3 := HP3.out.1.2.2.2.2.2.2.2.1.slv
            obtain ⟨Ay3, dy3, ey, -, -, hsly⟩ := hsy3
            obtain ⟨rfl, rfl⟩ : (some (⟨gy, oy, none⟩ : Addr)) = Ay3 ∧ dy = dy3 := by injection ey with q1 q2 q3; exact ⟨q1, q3⟩
            obtain ⟨gy3, oy3, ey3, hgy3, hcy3⟩ := hsly (by omega)
            obtain ⟨rfl, rfl⟩ : gy = gy3 ∧ oy = oy3 := by injection ey3 with q; injection q with q1 q2 q3; exact ⟨q1, q2⟩
            have sy1 := hcy3 k hkx 1 (by omega)
            simp only [eCIS, List.getElem?_cons_succ, List.getElem?_cons_zero, HAB.out.2] at sy1
            have hsx3 := HP3.out.1.2.2.2.2.2.2.1.slv
            obtain ⟨Ax3, dx3, ex, -, -, hslx⟩ := hsx3
            obtain ⟨rfl, rfl⟩ : (some (⟨gx, ox, none⟩ : Addr)) = Ax3 ∧ dx = dx3 := by injection ex with q1 q2 q3; exact ⟨q1, q3⟩
            obtain ⟨gx3, ox3, ex3, hgx3, hcx3⟩ := hslx (by omega)
            obtain ⟨rfl, rfl⟩ : gx = gx3 ∧ ox = ox3 := by injection ex3 with q; injection q with q1 q2 q3; exact ⟨q1, q2⟩
            clear hcy3 hsly ey ey3 hslx ex ex3
            have p0 := HP3.out.2.2.2.cell 0
            have p1 := HP3.out.2.2.2.cell 1
            have p2 := HP3.out.2.2.2.cell 2
            have p3 := HP3.out.2.2.2.cell 3
            simp at p0 p1 p2 p3
            have b0 := HP3.out.1.2.2.1.cell 0
            have b1' := HP3.out.1.2.2.2.1.cell 0
            have b2' := HP3.out.2.1.cell 0
            have b3' := HP3.out.2.2.1.cell 0
            simp at b0 b1' b2' b3'
            have HW3 := Lib.hid hW3; clear hW3
            rcases Nat.lt_or_ge (i + 1) nx with hin | hin
            · have hnl : i + 1 < xs.length := by rw [HNX.out.1]; exact hin
              have hnx1 := HNEXT.out hnl
              have sx0 := hcx3 (i + 1) hnl 0 (by omega)
              simp only [eCIS, List.getElem?_cons_zero, Nat.add_zero] at sx0
              obtain ⟨c, hc⟩ : ∃ c, xs[i + 1] = c := ⟨_, rfl⟩
              rw [hc] at hnx1 sx0
              have t4 : decide (c.1 < b.1) = false := by rw [decide_eq_false_iff_not]; omega
              have m1 : (i : Int) + 1 < nx := by omega
              have m2 : decide ((i : Int) + 1 < nx) = true := by rw [decide_eq_true_eq]; exact m1
              have m3 : decide (i + 1 < nx) = true := by rw [decide_eq_true_eq]; exact hin
              have m4 : ((i : Int) + 1).toNat = i + 1 := by omega
              have m5 : (0 : Int) ≤ (i : Int) + 1 := by omega
              have m6 : IntKind.i64.wrap ((i : Int) + 1) = (i : Int) + 1 := IntWalk.i64_in _ ⟨by omega, by omega⟩
              clear hcx3 hc
              have b0 := HP3.out.1.2.2.1.cell 0
              have b1' := HP3.out.1.2.2.2.1.cell 0
              have b2' := HP3.out.2.1.cell 0
              have b3' := HP3.out.2.2.1.cell 0
              simp at b0 b1' b2' b3'
              have k0 : ∀ m : Held (Aft W3), (HeldW m).cell? ⟨Tx, 0, none⟩ = some (.slice (some ⟨gx, ox, none⟩) nx dx) := fun m => (Aft.cell m HP3.out.1.2.2.1.lt).trans b0
              have k1 : ∀ m : Held (Aft W3), (HeldW m).cell? ⟨Ty, 0, none⟩ = some (.slice (some ⟨gy, oy, none⟩) ny dy) := fun m => (Aft.cell m HP3.out.1.2.2.2.1.lt).trans b1'
              have k2 : ∀ m : Held (Aft W3), (HeldW m).cell? ⟨Ti, 0, none⟩ = some (.int .i64 ((i : Int) + 1)) := fun m => (Aft.cell m HP3.out.2.1.lt).trans b2'
              have k3 : ∀ m : Held (Aft W3), (HeldW m).cell? ⟨Ti + 1, 0, none⟩ = some (.int .i64 (k)) := fun m => (Aft.cell m HP3.out.2.2.1.lt).trans b3'
              have k4 : ∀ m : Held (Aft W3), (HeldW m).cell? ⟨gy, oy + k * 2 + 1, none⟩ = some (.string b.2) := fun m => (Aft.cell m hgy3).trans sy1
              have k5 : ∀ m : Held (Aft W3), (HeldW m).cell? ⟨n0, 1, none⟩ = some (.string b.2) := fun m => (Aft.cell m HP3.out.2.2.2.lt).trans p1
              have k6 : ∀ m : Held (Aft W3), (HeldW m).cell? ⟨gx, ox + (i + 1) * 2, none⟩ = some (.int .i64 c.1) := fun m => (Aft.cell m hgx3).trans sx0
              clear b0 b1' b2' b3'
              haveI := Aft.some W3
              gi_wp2
              rw [HW3.out]
              refine wp_region_classIn (Aft W3) (by kernel_rfl) (by kernel_rfl) (by kernel_rfl) (Aft.start W3) ?_
              repeat (gi_big_quiet_step (fail))
              refine wpQuietIn_nil ?_
              rintro _ ⟨nn, rfl⟩
              have hW4 : Below W3.heap.size W3 (HeldW nn) := HeldW_spec nn
              generalize HeldW nn = W4 at *
              have HP4 := Lib.hid (HP3.out.below hW4)
              have HW4 := Lib.hid hW4
              have HC4 := Lib.hid (HC3.out.step hTW hW4)
              have b4' := HP4.out.2.2.1.cell 0
              have f4 := HP4.out.2.2.1.frozen 0
              simp at b4'
              clear nn hW4 k0 k1 k2 k3 k4 k5 k6
              gi_wp2
              exact jn_end hKP.out hTi HB.out hwT (HC4.out.set (Ti + 1) (.inr rfl) (.int .i64 ((k : Int) + 1))) H10.out.2.2.1 (i := i + 1) (k := k + 1) (by have := HNX.out.1; omega) (by have := HNY.out.1; omega) HST.out (by have := HP4.out.2.1.far (p := ⟨Ti + 1, 0, none⟩) (by dsimp only; omega) (.int .i64 ((k : Int) + 1)); simpa using this) (by have := HP4.out.2.2.1.put 0 (.int .i64 ((k : Int) + 1)); simpa using this)
            · have m1 : ¬ ((i : Int) + 1 < nx) := by omega
              have m2 : decide ((i : Int) + 1 < nx) = false := by rw [decide_eq_false_iff_not]; exact m1
              have m3 : decide (i + 1 < nx) = false := by rw [decide_eq_false_iff_not]; omega
              have m6 : IntKind.i64.wrap ((i : Int) + 1) = (i : Int) + 1 := IntWalk.i64_in _ ⟨by omega, by omega⟩
              clear hcx3
              have b0 := HP3.out.1.2.2.1.cell 0
              have b1' := HP3.out.1.2.2.2.1.cell 0
              have b2' := HP3.out.2.1.cell 0
              have b3' := HP3.out.2.2.1.cell 0
              simp at b0 b1' b2' b3'
              have k0 : ∀ m : Held (Aft W3), (HeldW m).cell? ⟨Tx, 0, none⟩ = some (.slice (some ⟨gx, ox, none⟩) nx dx) := fun m => (Aft.cell m HP3.out.1.2.2.1.lt).trans b0
              have k1 : ∀ m : Held (Aft W3), (HeldW m).cell? ⟨Ty, 0, none⟩ = some (.slice (some ⟨gy, oy, none⟩) ny dy) := fun m => (Aft.cell m HP3.out.1.2.2.2.1.lt).trans b1'
              have k2 : ∀ m : Held (Aft W3), (HeldW m).cell? ⟨Ti, 0, none⟩ = some (.int .i64 ((i : Int) + 1)) := fun m => (Aft.cell m HP3.out.2.1.lt).trans b2'
              have k3 : ∀ m : Held (Aft W3), (HeldW m).cell? ⟨Ti + 1, 0, none⟩ = some (.int .i64 (k)) := fun m => (Aft.cell m HP3.out.2.2.1.lt).trans b3'
              have k4 : ∀ m : Held (Aft W3), (HeldW m).cell? ⟨gy, oy + k * 2 + 1, none⟩ = some (.string b.2) := fun m => (Aft.cell m hgy3).trans sy1
              have k5 : ∀ m : Held (Aft W3), (HeldW m).cell? ⟨n0, 1, none⟩ = some (.string b.2) := fun m => (Aft.cell m HP3.out.2.2.2.lt).trans p1
              clear b0 b1' b2' b3'
              haveI := Aft.some W3
              gi_wp2
              rw [HW3.out]
              refine wp_region_classIn (Aft W3) (by kernel_rfl) (by kernel_rfl) (by kernel_rfl) (Aft.start W3) ?_
              repeat (gi_big_quiet_step (fail))
              refine wpQuietIn_nil ?_
              rintro _ ⟨nn, rfl⟩
              have hW4 : Below W3.heap.size W3 (HeldW nn) := HeldW_spec nn
              generalize HeldW nn = W4 at *
              have HP4 := Lib.hid (HP3.out.below hW4)
              have HW4 := Lib.hid hW4
              have HC4 := Lib.hid (HC3.out.step hTW hW4)
              have b4' := HP4.out.2.2.1.cell 0
              have f4 := HP4.out.2.2.1.frozen 0
              simp at b4'
              clear nn hW4 k0 k1 k2 k3 k4 k5
              gi_wp2
              exact jn_end hKP.out hTi HB.out hwT (HC4.out.set (Ti + 1) (.inr rfl) (.int .i64 ((k : Int) + 1))) H10.out.2.2.1 (i := i + 1) (k := k + 1) (by have := HNX.out.1; omega) (by have := HNY.out.1; omega) HST.out (by have := HP4.out.2.1.far (p := ⟨Ti + 1, 0, none⟩) (by dsimp only; omega) (.int .i64 ((k : Int) + 1)); simpa using this) (by have := HP4.out.2.2.1.put 0 (.int .i64 ((k : Int) + 1)); simpa using this)
        case done =>
          rintro D zs W hD hzs ⟨⟨hk, i, k, hi, hk2, he, bi, bk⟩, hB⟩ hK
          rw [show zs = joinL ordI xs ys from hzs] at he
          clear hzs zs
          obtain ⟨rfl, rfl⟩ := join_done xs ys i k hi hk2 he
          rw [HNX.out.1] at bi
          rw [HNY.out.1] at bk
          have HE := Lib.hid (show JnE w.heap.size R Tx Ty ba bb Ti (Ti + 1) D wanted (.slice Bx nx dx) (.slice By ny dy) xs ys nx ny w W from ⟨HZ9.out.keptP hk hB, bi, bk, hK⟩)
          have HD' := Lib.hid (Nat.le_trans (Nat.le_trans hwT (by omega)) hD : w.heap.size ≤ D)
          clear he hi hk2 bi bk hB hk hK hD HIT HTL H10
          have b0 := HE.out.1.2.2.1.cell 0
          simp at b0
          have hsx := HE.out.1.2.2.2.2.2.2.1.slv
          obtain ⟨Bx', dx', ex, -, -, hslx⟩ := hsx
          obtain ⟨rfl, rfl⟩ : Bx = Bx' ∧ dx = dx' := by injection ex with q1 q2 q3; exact ⟨q1, q3⟩
          have HSX := Lib.hid hslx; clear hslx ex
          gi_wp2
          gi_loopw [20, 187] (fun ov iv wr => ∃ i : Nat, i ≤ nx ∧ iv = .int .i64 i ∧ Own15 wr W.heap.size ov ((xs.take i).filter fun e => decide (wanted < e.1)) ∧ Below W.heap.size W wr) (fun _ iv _ => nx - (intOf iv).toNat)
          case atStart => exact ⟨0, Nat.zero_le _, rfl, World.ownsRow_nil _ _ _ _, Below.refl _ _⟩
          case round =>
            obtain ⟨i, hi, rfl, ho, hbr⟩ := hrel
            obtain ⟨A3, c3, rfl, -, -, -⟩ := SlV_of_any ho
            have HR := Lib.hid (And.intro ho hbr)
            by_cases hlt : i < nx
            · have hiL : i < xs.length := by rw [HNX.out.1]; exact hlt
              obtain ⟨gx, ox, rfl, hgx, hcx⟩ := (HSX.out.below hbr (Nat.le_refl _)) (by omega)
              have d0 := hcx i hiL 0 (by omega)
              have d1 := hcx i hiL 1 (by omega)
              simp only [eCIS, List.getElem?_cons_succ, List.getElem?_cons_zero, Nat.add_zero] at d0 d1
              have hi1 : (i : Int) < nx := by omega
              have htk : (xs.take (i + 1)).filter (fun e => decide (wanted < e.1)) = (xs.take i).filter (fun e => decide (wanted < e.1)) ++ [xs[i]].filter (fun e => decide (wanted < e.1)) := by rw [List.take_succ_eq_append_getElem hiL, List.filter_append]
              obtain ⟨x, hx⟩ : ∃ x, xs[i] = x := ⟨_, rfl⟩
              simp only [hx] at d0 d1 htk
              have g0 := (HE.out.1.1.below hbr HE.out.1.1.lt)
              have w0 := (g0.below ((Below.refl wr.heap.size wr).alloc (Nat.le_refl _) (.cells #[.int .i64 x.1, .string x.2] 40)) g0.lt).cell 0
              simp at w0
              have hll : ((xs.take i).filter fun e => decide (wanted < e.1)).length ≤ 30 := Nat.le_trans (List.length_filter_le _ _) (by rw [List.length_take]; omega)
              obtain ⟨L, hL⟩ : ∃ L, (xs.take i).filter (fun e => decide (wanted < e.1)) = L := ⟨_, rfl⟩
              rw [hL] at htk hll HR
              obtain ⟨m, hm⟩ : ∃ m, L.length = m := ⟨_, rfl⟩
              have HTK := Lib.hid (And.intro htk (And.intro hL (And.intro hx hm)))
              have hR1 : wr.ownsRow W.heap.size 40 2 (.slice A3 m c3) m (L.flatMap eCIS) := by have := HR.out.1; unfold Own15 at this; rw [hm] at this; exact this
              have HR1 := Lib.hid hR1
              rw [hL, hm]
              rw [hm] at hll
              clear htk hL hx hm hcx g0 ho hbr hR1
              by_cases hw : wanted < x.1
              · have hwd : decide (wanted < x.1) = true := by rw [decide_eq_true_eq]; exact hw
                have hb12 : Below wr.heap.size wr ((wr.alloc (.cells #[.int .i64 x.1, .string x.2] 40)).alloc (.cells #[.int .i64 x.1, .string x.2] 40)) := ((Below.refl _ _).alloc (Nat.le_refl _) _).alloc (by simp) _
                have hgW : W.heap.size ≤ wr.heap.size := HR.out.2.size
                gi_wp2_with (gi_at_builtin; refine wpListIn_app rfl _ _ 28 rfl W.heap.size 40 (.agg #[.int .i64 0, .string ⟨#[]⟩]) 2 24 Try.underlying28 infoE15 rfl (by decide) _ m _ rfl ((HR1.out.alloc _).alloc _) (wr.heap.size + 1) 1 #[.int .i64 x.1, .string x.2] 40 rfl (blk_snd _ _ _ _) rfl (by simp [Value.oneCell']) (by omega) (by decide) (by simp; omega) _ rfl ?_; intro g cap w5 hown1 hgrow1 hat hlt1; have HA := Lib.hid (And.intro hown1 (And.intro hgrow1 hlt1)); clear hown1 hgrow1 hat hlt1)
                refine ⟨⟨i + 1, by omega, by go_num, ?_, ?_⟩, by simp [intOf]; omega⟩
                · rw [HTK.out.1]
                  have := HA.out.1
                  unfold Own15
                  rw [List.length_append, HTK.out.2.2.2, List.flatMap_append]
                  simpa [List.filter_cons, hwd, eCIS] using this
                · have hg := HA.out.2.1
                  exact (HR.out.2.trans (hb12.mono hgW)).grown hg (Nat.le_trans hgW hb12.size) (fun k hk => (HR1.out.lt k hk).1)
              · have hwd : decide (wanted < x.1) = false := by rw [decide_eq_false_iff_not]; exact hw
                gi_wp2
                refine ⟨⟨i + 1, by omega, by go_num, ?_, HR.out.2.alloc HR.out.2.size _⟩, by simp [intOf]; omega⟩
                rw [HTK.out.1]
                have := HR1.out.alloc (.cells #[.int .i64 x.1, .string x.2] 40)
                unfold Own15
                rw [List.filter_cons, hwd, List.filter_nil]
                simp only [Bool.false_eq_true, if_false, List.append_nil]
                rw [HTK.out.2.2.2]
                exact this
            · obtain rfl : i = nx := by omega
              have htk : xs.take i = xs := List.take_of_length_le (by rw [HNX.out.1]; omega)
              rw [htk] at HR
              rw [htk]
              obtain ⟨L, hL⟩ : ∃ L, xs.filter (fun e => decide (wanted < e.1)) = L := ⟨_, rfl⟩
              have hll : L.length ≤ 30 := by rw [← hL]; exact Nat.le_trans (List.length_filter_le _ _) (by rw [HNX.out.1]; exact hxl)
              rw [hL] at HR
              rw [hL]
              obtain ⟨m, hm⟩ : ∃ m, L.length = m := ⟨_, rfl⟩
              rw [hm] at HR
              rw [hm]
              have HLM := Lib.hid (And.intro hL hm)
              have hE := HE.out.below hbr
              have HFT := Lib.hid (srtFilterIS_any (fun e => decide (wanted < e.1)) wr ba w.heap.size xs hE.1.2.2.2.2.1 (by rw [HNX.out.1]; omega) (fun W' e _ hk => want15_any W' w.heap.size e.1 e.2 wanted (by have := (hE.1.1.keptP hk hE.1.1.lt).cell 0; simpa using this)))
              have HE1 := Lib.hid hE
              clear htk hL hm hE ho hbr HE HSX b0
              gi_wp2
              refine ⟨trivial, (callsIn_wide.2 HFT.out).mono ?_⟩
              rintro e w11 ⟨bf, rfl, hmf, _, hb11⟩
              rw [HLM.out.1] at hmf
              have HF := Lib.hid (And.intro hmf (And.intro (HR.out.1.below hb11) (HE1.out.below hb11))); clear hmf hb11 HFT HE1 HR
              gi_wp2
              refine ⟨trivial, (callsIn_wide.2 (srtAllIS_any w11 bf L HF.out.1)).mono ?_⟩
              rintro e w12 ⟨gb3, v3, rfl, hg3, hL3, hge3, hv3, hb12⟩
              have HT := Lib.hid (all15_any w12 gb3 v3 L 99 hg3 hL3 hv3 (by omega)); clear hg3 hL3 hge3 hv3
              have HF12 := Lib.hid (And.intro (HF.out.2.1.below hb12) (HF.out.2.2.below hb12)); clear hb12 HF
              gi_wp2
              refine ⟨trivial, (callsIn_wide.2 HT.out).mono ?_⟩
              rintro e w13 ⟨u3, rfl, ho13, hb13⟩
              rw [show L.take (99 : Int).toNat = L from List.take_of_length_le (by show _ ≤ 99; omega)] at ho13
              have HF13 := Lib.hid (And.intro ho13 (And.intro (HF12.out.1.below hb13) (HF12.out.2.below hb13))); clear hb13 ho13 HF12 HT
              gi_wp2
              refine ⟨trivial, (callsIn_wide.2 (srtAllIS_any w13 ba xs HF13.out.2.2.1.2.2.2.2.1)).mono ?_⟩
              rintro e w14 ⟨gb4, v4, rfl, hg4, hL4, hge4, hv4, hb14⟩
              have HT := Lib.hid (all15_any w14 gb4 v4 xs 99 hg4 hL4 hv4 (by rw [HNX.out.1]; omega)); clear hg4 hL4 hge4 hv4
              have HF14 := Lib.hid (And.intro (HF13.out.1.below hb14) (And.intro (HF13.out.2.1.below hb14) (HF13.out.2.2.below hb14))); clear hb14 HF13
              gi_wp2
              refine ⟨trivial, (callsIn_wide.2 HT.out).mono ?_⟩
              rintro e w15 ⟨u4, rfl, ho15, hb15⟩
              rw [show xs.take (99 : Int).toNat = xs from List.take_of_length_le (by rw [HNX.out.1]; show _ ≤ 99; omega)] at ho15
              have hE := HF14.out.2.2.below hb15
              have hsm := ref15Same_yes w15 u3 _ L (HF14.out.1.below hb15).slv (HF14.out.2.1.below hb15).slv
              have HSM := Lib.hid hsm
              have b0 := hE.1.2.2.1.cell 0
              have b1' := hE.1.2.2.2.1.cell 0
              have b2' := hE.2.1.cell 0
              have b3' := hE.2.2.1.cell 0
              simp at b0 b1' b2' b3'
              have HO15 := Lib.hid (And.intro ho15 hE); clear hb15 ho15 HF14 HT hsm hE
              gi_wp2
              refine ⟨trivial, (callsIn_wide.2 HSM.out).mono ?_⟩
              rintro e w16 ⟨rfl, m16, hw16⟩
              have hb16 : Below w15.heap.size w15 w16 := by rw [hw16]; exact below_drewN (Below.refl _ _) m16
              have hE := HO15.out.2.below hb16
              have hsm := ref15Same_yes w16 u4 _ xs (HO15.out.1.below hb16).slv hE.1.2.2.2.2.2.2.1.slv
              have HSM2 := Lib.hid hsm
              have HE16 := Lib.hid hE
              clear b0 b1' b2' b3'
              have b0 := hE.1.2.2.1.cell 0
              simp at b0
              clear hb16 hw16 hsm hE HO15 HSM
              gi_wp2
              refine ⟨trivial, (callsIn_wide.2 HSM2.out).mono ?_⟩
              rintro e w17 ⟨rfl, m17, hw17⟩
              have hb17 : Below w16.heap.size w16 w17 := by rw [hw17]; exact below_drewN (Below.refl _ _) m17
              have HE17 := Lib.hid (HE16.out.below hb17)
              clear hb17 hw17 HE16 HSM2 b0
              gi_wp2
              refine ⟨trivial, (callsIn_wide.2 (HLV.out w17)).mono ?_⟩
              rintro e w18 ⟨rfl, hb18⟩
              have hE := HE17.out.below hb18
              have r0 := hE.1.2.1.cell 0
              have p0 := hE.1.2.1.frozen 0
              simp at r0
              have HE18 := Lib.hid hE
              clear hE hb18 HE17
              gi_wp2
              have hK23 : (w18.setCell ⟨R, 0, none⟩ (.bool true)).heap[D]? = some (Obj.deferred (some [])) := (KeepsOthers.setCell w18 ⟨R, 0, none⟩ (.bool true)).same D _ HE18.out.2.2.2 rfl
              have hR23 : Blk (w18.setCell ⟨R, 0, none⟩ (.bool true)) R 4 #[.bool true] := HE18.out.1.2.1.put 0 (.bool true)
              have hB23 := HE18.out.1.2.2.2.2.2.2.2.2.setCell (p := ⟨R, 0, none⟩) (by dsimp only; omega) (.bool true)
              refine ⟨by simp, .inl ⟨_, _, rfl, run_takeDeferred hK23, ?_⟩⟩
              refine ⟨_, res_cellJ rfl _ _ R 4 (.bool true) rfl (blk_ownF hR23 (grownBy_putObj' _ D (.deferred none)) (fun r e => by cases e; exact ⟨_, hK23, rfl⟩)) Try.underlying4, rfl, ?_⟩
              exact hB23.trans (belowK_b (w := w) (Nat.le_refl _) _ D _ _ HD'.out hK23 rfl rfl)
        case stop =>
          rintro D c pre W hD hSp h hK
          exact h.elim
end Go.Proofs.Ytpnkgldpmalklaa
