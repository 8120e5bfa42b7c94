/- Several texts, joined for the limit of sixty files; each one opens with its own comment. -/
import Derived.Test.YtlogdionhgabdaaDoorJoin42
/- The contract of name.Right: the walk. -/
set_option linter.unusedVariables false
set_option linter.unusedSimpArgs false
namespace Sw
open Go Go.RowKit
theorem rightL_long {s : ByteArray} (h : 200 < s.size) : rightL s.data.toList = false := by
  unfold rightL
  rw [decide_eq_false (show ¬ s.data.toList.length ≤ 200 by have : s.data.toList.length = s.size := by simp
                                                            omega)]
  simp
theorem rightL_res {s : ByteArray} (h : headS s = mkB resL) : rightL s.data.toList = false := by
  unfold headS at h
  have h2 : (spL s.data.toList).headD [] = resL := by
    have := congrArg (fun b : ByteArray => b.data.toList) h
    simpa [data_mkB] using this
  unfold rightL
  rw [h2]
  simp
theorem rightL_bad {s : ByteArray} {pre : List ByteArray} {x : ByteArray} {r : List ByteArray} (h : spS s = (pre ++ [x]) ++ r) (hb : partL x.data.toList = false ∨ 12 < (pre ++ [x]).length) : rightL s.data.toList = false := by
  have h1 := congrArg (List.map (fun b : ByteArray => b.data.toList)) h
  unfold spS at h1
  rw [List.map_map] at h1
  have h2 : (spL s.data.toList).map ((fun b : ByteArray => b.data.toList) ∘ mkB) = spL s.data.toList := by
    conv => rhs; rw [← List.map_id (spL s.data.toList)]
    exact List.map_congr_left fun a _ => data_mkB a
  rw [h2, List.map_append, List.map_append] at h1
  unfold rightL
  rw [h1]
  rcases hb with hb | hb
  · have : (((pre.map fun b : ByteArray => b.data.toList) ++ [x].map fun b : ByteArray => b.data.toList) ++ r.map fun b : ByteArray => b.data.toList).all partL = false := by
      rw [List.all_eq_false]
      exact ⟨x.data.toList, by simp, by simp [hb]⟩
    rw [this]
    simp
  · rw [decide_eq_false (show ¬ _ ≤ 12 by simp at hb ⊢; omega)]
    simp
theorem rightL_good {s : ByteArray} {xs : List ByteArray} (h : xs = spS s) (h1 : s.size ≤ 200) (h2 : headS s ≠ mkB resL) (h3 : ∀ x ∈ xs, partL x.data.toList = true) (h4 : xs.length ≤ 12) : rightL s.data.toList = true := by
  subst h
  unfold spS at h3 h4
  rw [List.length_map] at h4
  unfold rightL
  have hl : s.data.toList.length = s.size := by simp
  rw [decide_eq_true (show s.data.toList.length ≤ 200 by omega), decide_eq_true h4, decide_eq_true (show (spL s.data.toList).headD [] ≠ resL from fun e => h2 (by unfold headS; rw [e]))]
  simp only [Bool.true_and, List.all_eq_true]
  intro x hx
  have := h3 (mkB x) (List.mem_map_of_mem hx)
  rwa [data_mkB] at this
end Sw
namespace Go.Proofs.YtlogdionhgabdaaDoor
open Go Go.RowKit Go.Shelf
open Sw
attribute [local go_sem] Oper.semAt_some
theorem res_cell_bool {P : Program} {fn : Func} {p : Tmp} {ty : TypeId} (h : fn.results = #[.cell p ty]) (tmps : Array Value) (w : World) (g : Nat) (u : TypeId) (b : Bool) (hp : tmps.getD p undef = .pointer (some ⟨g, 0, none⟩)) (hg : Blk w g u #[.bool b]) (hu : P.underlying ty = some .bool) :
    (results fn tmps).run P w = .ok (.bool b) w := by
  have hp' : tmps[p]?.getD undef = .pointer (some ⟨g, 0, none⟩) := by simpa using hp
  have c : w.cell? ⟨g, 0, none⟩ = some (.bool b) := by have := hg.cell 0; simpa using this
  have l2 : (loadVar ty ⟨g, 0, none⟩).run P w = .ok (.bool b) w := by simp [loadVar, isAgg, run_underlying hu, run_load, c]
  simp [results, h, hp', asAddr, l2]
/-- what Right knows between two rounds -/
def RtI (s : ByteArray) (T N : Nat) (pre : List (Pc s.size)) (W : World) : Prop :=
  (∀ x ∈ pre, partL x.1.data.toList = true) ∧ pre.length ≤ 12 ∧ Blk W T 4 #[.bool false] ∧ Blk W N 3 #[.int .i64 (pre.length : Nat)]
/-- how Right leaves a round -/
def RtX (s : ByteArray) (T : Nat) (c : Code) (pre : List (Pc s.size)) (W : World) : Prop :=
  (∃ (pre' : List (Pc s.size)) (x : Pc s.size), pre = pre' ++ [x] ∧ (partL x.1.data.toList = false ∨ 12 < pre.length) ∧ c = .ret) ∧ Blk W T 4 #[.bool false]
theorem rtI_own {s : ByteArray} {T N B M : Nat} (h1 : T ≠ M) (h2 : N ≠ M) : OwnM (fun k => k = M) B (RtI s T N) :=
  fun pre W W' row hs hg hr => ⟨hs.1, hs.2.1, blk_ownM hs.2.2.1 h1 hg hr, blk_ownM hs.2.2.2 h2 hg hr⟩
theorem rtX_own {s : ByteArray} {T B M : Nat} (h1 : T ≠ M) (c : Code) : OwnM (fun k => k = M) B (RtX s T c) :=
  fun pre W W' row hs hg hr => ⟨hs.1, blk_ownM hs.2 h1 hg hr⟩
set_option maxRecDepth 100000 in
set_option maxHeartbeats 4000000 in
theorem right_any (w : World) (s : ByteArray) (hs : s.size ≤ 1000000) :
    Calls Tryd.prog 32 #[.string s] w fun e w' => e = .returned (.bool (rightL s.data.toList)) ∧ Below w.heap.size w w' := by
  have HC := Lib.hid (fun W => cut_any W s hs)
  have HR := Lib.hid reserved_any
  have HQ := Lib.hid SplitSeq_any
  have HP := Lib.hid part_any
  have hres : ((headS s).toList == [46, 115, 119, 105, 110, 103, 108, 101]) = decide (headS s = mkB resL) := by
    rw [str_eq_iff]
    by_cases h : headS s = mkB resL
    · rw [decide_eq_true h, h, data_mkB]; rfl
    · rw [decide_eq_false h]
      refine decide_eq_false fun e => h ?_
      rw [← mkB_data (headS s), e]; rfl
  have hB0 := Blk.new w 4 #[.bool false]
  have hb0 : Below w.heap.size w (w.alloc (.cells #[.bool false] 4)) := (Below.refl _ _).alloc (Nat.le_refl _) _
  refine callsIn_wide.1 (?_ : CallsIn Fence.wide 9 _ _ _ _ _)
  refine callsIn_of_wp_marks Tryd.func32 rfl trivial ?_ rfl
  simp only [Tryd.ntmps32, List.size_toArray, List.length_cons, List.length_nil, Nat.reduceAdd, Nat.reduceSub, Array.replicate_succ, Array.replicate_zero, List.push_toArray, List.append_toArray, List.nil_append, List.cons_append]
  gi_wp2
  refine ⟨trivial, ?_⟩
  refine (callsIn_wide.2 (HC.out _)).mono ?_
  rintro e w1 ⟨⟨r, b, rfl⟩, m, rfl⟩
  have hB1 : Blk ((w.alloc (.cells #[.bool false] 4)).drewN m) w.heap.size 4 #[.bool false] := hB0
  have hb1 := below_drewN hb0 m
  clear hB0 hb0
  generalize (w.alloc (.cells #[.bool false] 4)).drewN m = w2 at *
  obtain ⟨T, hT⟩ : ∃ T, T = w.heap.size := ⟨_, rfl⟩
  rw [← hT] at hB1 hb1 ⊢
  have HTE := Lib.hid hT; clear hT
  have c0 := hB1.cell 0
  have f0 := hB1.frozen 0
  simp at c0
  have hlt := hB1.lt
  by_cases hbig : (200 : Int) < s.size
  · have HF := Lib.hid (rightL_long (s := s) (by omega))
    gi_wp2
    refine ⟨trivial, ?_⟩
    gi_wp2
    refine ⟨_, res_cell_bool rfl _ _ T 4 false rfl (hB1.put 0 (.bool false)) Tryd.underlying4, ?_⟩
    exact ⟨by rw [HF.out], by rw [← HTE.out]; exact hb1.setCell (Nat.le_refl _) _⟩
  · gi_wp2
    refine ⟨trivial, ?_⟩
    refine (callsIn_wide.2 (HR.out _)).mono ?_
    rintro e w3 ⟨rfl, rfl⟩
    by_cases hre : headS s = mkB resL
    · have HF := Lib.hid (rightL_res hre)
      rw [decide_eq_true hre] at hres
      clear hre
      gi_wp2
      refine ⟨_, res_cell_bool rfl _ _ T 4 false rfl (hB1.put 0 (.bool false)) Tryd.underlying4, ?_⟩
      exact ⟨by rw [HF.out], by rw [← HTE.out]; exact hb1.setCell (Nat.le_refl _) _⟩
    · rw [decide_eq_false hre] at hres
      have HRE := Lib.hid hre; clear hre
      have hB2 := hB1.alloc (.cells #[.int .i64 0] 3)
      have hN2 := Blk.new w2 3 #[.int .i64 0]
      have hb2 := hb1.alloc (by omega) (.cells #[.int .i64 0] 3)
      gi_wp2
      refine ⟨trivial, ?_⟩
      refine (callsIn_wide.2 (HQ.out _ _ _)).mono ?_
      rintro e w5 ⟨rfl, rfl⟩
      obtain ⟨w4, hw4⟩ : ∃ w4, w4 = w2.alloc (.cells #[.int .i64 0] 3) := ⟨_, rfl⟩
      obtain ⟨N, hN⟩ : ∃ N, N = w2.heap.size := ⟨_, rfl⟩
      have hz4 : w4.heap.size = N + 1 := by rw [hw4, hN]; simp
      rw [← hw4] at hB2 hN2 hb2 ⊢
      rw [← hN] at hN2 hlt ⊢
      clear hw4 hN c0 f0 hB1 hb1
      have hS := (Blk.new w4 9 #[.string s]).alloc (.cells #[.string ⟨#[47]⟩] 9) |>.alloc (.cells #[.int .i64 0] 3)
      have hP1 := (Blk.new (w4.alloc (.cells #[.string s] 9)) 9 #[.string ⟨#[47]⟩]).alloc (.cells #[.int .i64 0] 3)
      have hV := Blk.new ((w4.alloc (.cells #[.string s] 9)).alloc (.cells #[.string ⟨#[47]⟩] 9)) 3 #[.int .i64 0]
      have hB5 := ((hB2.alloc (.cells #[.string s] 9)).alloc (.cells #[.string ⟨#[47]⟩] 9)).alloc (.cells #[.int .i64 0] 3)
      have hN5 := ((hN2.alloc (.cells #[.string s] 9)).alloc (.cells #[.string ⟨#[47]⟩] 9)).alloc (.cells #[.int .i64 0] 3)
      have hb5 := ((hb2.alloc (by omega) (.cells #[.string s] 9)).alloc (by simp; omega) (.cells #[.string ⟨#[47]⟩] 9)).alloc (by simp; omega) (.cells #[.int .i64 0] 3)
      have hz5 : (((w4.alloc (.cells #[.string s] 9)).alloc (.cells #[.string ⟨#[47]⟩] 9)).alloc (.cells #[.int .i64 0] 3)).heap.size = N + 1 + 1 + 1 + 1 := by simp [hz4]
      simp only [World.size_alloc, hz4] at hS hP1 hV
      clear hB2 hN2 hb2
      generalize ((w4.alloc (.cells #[.string s] 9)).alloc (.cells #[.string ⟨#[47]⟩] 9)).alloc (.cells #[.int .i64 0] 3) = w5 at *
      rw [hz4]
      gi_wp2
      refine wpIn_rangeFunc_mine (Mine := fun k => k = N + 1) (fun r h => by omega) rfl (by omega) (gf := 57) (lb := #[.pointer (some ⟨N + 1 + 1, 0, none⟩), .pointer (some ⟨N + 1, 0, none⟩), .pointer (some ⟨N + 1 + 1 + 1, 0, none⟩)]) rfl trivial (enters_of Tryd.func57 (by kernel_rfl) rfl)
        (splitSeq_owns 8 (by omega) (N + 1 + 1) (N + 1) (N + 1 + 1 + 1) s w5 hs hP1 hS hV (by omega)) Kp3.trans (fun W l o o' hl _ _ _ => Kp3.turn (w := w5) (by omega) (by omega) (by omega) W l o o' hl) (Below.refl _ _) (fun _ => rfl)
        (fun pre W => RtI s T N pre W ∧ Below T w W) (fun c pre W => RtX s T c pre W ∧ Below T w W)
        (OwnM.and (rtI_own (by omega) (by omega)) (ownM_below (by rw [HTE.out]; exact Nat.le_refl _) (by omega) (fun r h => by omega)))
        (fun c => OwnM.and (rtX_own (by omega) c) (ownM_below (by rw [HTE.out]; exact Nat.le_refl _) (by omega) (fun r h => by omega)))
        ⟨⟨fun x hx => (by cases hx), by simp, hB5, hN5⟩, hb5⟩ ?a1 ?assign ?body ?done ?stop
      case assign =>
        intro l x W K hK
        gi_wp2
        exact hK
      case body =>
        rintro l pre x W ⟨⟨hall, hln, b0, b1⟩, hB⟩ hlt'
        have m0 := b1.cell 0
        have k0 := b1.frozen 0
        simp at m0
        have hxp := HP.out (W.setCell ⟨N, 0, none⟩ (.int .i64 ((pre.length : Nat) + 1))) x.1 (by have := x.2; omega)
        have b1' := b1.put 0 (.int .i64 ((pre.length : Nat) + 1))
        have b0' := b0.far (p := ⟨N, 0, none⟩) (show T ≠ N by omega) (.int .i64 ((pre.length : Nat) + 1))
        have hB' := hB.setCell (p := ⟨N, 0, none⟩) (show T ≤ N by omega) (.int .i64 ((pre.length : Nat) + 1))
        have n0 := b1'.cell 0
        have z0 := b0'.cell 0
        have y0 := b0'.frozen 0
        simp at n0 z0
        have hkp : Kp3 (N + 1 + 1) (N + 1) (N + 1 + 1 + 1) W (W.setCell ⟨N, 0, none⟩ (.int .i64 ((pre.length : Nat) + 1))) := ⟨by simp [World.setCell], fun k hk => Below.heap_setCell W _ _ k (by rcases hk with rfl | rfl | rfl <;> simp <;> omega)⟩
        have hko := KeepsOthers.setCell W ⟨N, 0, none⟩ (.int .i64 ((pre.length : Nat) + 1))
        have HXP := Lib.hid hxp; clear hxp
        have HH := Lib.hid (And.intro b0' (And.intro b1' (And.intro hB' (And.intro hkp hko)))); clear b0 b1 hB b0' b1' hB' hkp hko
        gi_wp2
        refine ⟨trivial, ?_⟩
        refine (CallsIn.inRound l (callsIn_wide.2 HXP.out)).mono ?_
        rintro e w6 ⟨rfl, rfl⟩
        generalize (W.setCell ⟨N, 0, none⟩ (.int .i64 ((pre.length : Nat) + 1))) = W1 at *
        cases hpx : partL x.1.data.toList with
        | false =>
          gi_wp2
          refine ⟨HH.out.2.2.2.2.trans (KeepsOthers.setCell _ _ _), ⟨⟨pre, x, rfl, .inl hpx, rfl⟩, HH.out.1.put 0 (.bool false)⟩, HH.out.2.2.1.setCell (Nat.le_refl _) _⟩
        | true =>
          by_cases h12 : (12 : Int) < (pre.length : Nat) + 1
          · gi_wp2
            refine ⟨HH.out.2.2.2.2.trans (KeepsOthers.setCell _ _ _), ⟨⟨pre, x, rfl, .inr (by simp; omega), rfl⟩, HH.out.1.put 0 (.bool false)⟩, HH.out.2.2.1.setCell (Nat.le_refl _) _⟩
          · gi_wp2
            refine ⟨HH.out.2.2.2.2, HH.out.2.2.2.1, ⟨fun y hy => ?_, by simp; omega, HH.out.1, ?_⟩, HH.out.2.2.1⟩
            · rcases List.mem_append.1 hy with h | h
              · exact hall y h
              · rw [List.mem_singleton] at h; rw [h]; exact hpx
            · have e : (((pre ++ [x]).length : Nat) : Int) = (pre.length : Nat) + 1 := by simp
              rw [e]; exact HH.out.2.1
      case done =>
        rintro D ys W hD hS' ⟨⟨hall, hln, b0, b1⟩, hB⟩ hK
        have HF := Lib.hid (rightL_good (s := s) (xs := ys.map (·.1)) hS' (by omega) HRE.out (fun x hx => by obtain ⟨y, hy, rfl⟩ := List.mem_map.1 hx; exact hall y hy) (by rw [List.length_map]; exact hln))
        have z0 := b0.cell 0
        have y0 := b0.frozen 0
        simp at z0
        have b0' := b0.put 0 (.bool true)
        have hB' := hB.setCell (p := ⟨T, 0, none⟩) (Nat.le_refl T) (.bool true)
        have hK' := (KeepsOthers.setCell W ⟨T, 0, none⟩ (.bool true)).same D _ hK rfl
        have HH := Lib.hid (And.intro b0' (And.intro hB' hK')); clear b0 b1 hB b0' hB' hK hK'
        gi_wp2
        generalize (W.setCell ⟨T, 0, none⟩ (.bool true)) = W1 at *
        refine ⟨by simp, .inl ⟨_, _, rfl, run_takeDeferred HH.out.2.2, ?_⟩⟩
        refine ⟨_, res_cell_bool rfl _ _ T 4 true rfl (HH.out.1.grown (grownBy_putObj' W1 D (.deferred none)) (fun e => by cases e; omega)) Tryd.underlying4, by rw [HF.out], ?_⟩
        have hb := HH.out.2.1
        rw [HTE.out] at hb
        exact hb.trans (belowK_b (w := w) (Nat.le_refl _) W1 D _ _ (by have := HTE.out; omega) HH.out.2.2 rfl rfl)
      case stop =>
        rintro D c pre W hD hSp ⟨⟨⟨pre', x, rfl, hbad, rfl⟩, b0⟩, hB⟩ hK
        obtain ⟨r', hr'⟩ := hSp
        have HF := Lib.hid (rightL_bad (s := s) (pre := pre'.map (·.1)) (x := x.1) (r := r') (by rw [hr', List.map_append]; rfl) (by
          rcases hbad with h | h
          · exact .inl h
          · right; simp at h ⊢; exact h))
        clear hr' hbad
        gi_wp2
        refine ⟨by simp, .inl ⟨_, _, rfl, run_takeDeferred hK, ?_⟩⟩
        refine ⟨_, res_cell_bool rfl _ _ T 4 false rfl (b0.grown (grownBy_putObj' W D (.deferred none)) (fun e => by cases e; omega)) Tryd.underlying4, by rw [HF.out], ?_⟩
        rw [HTE.out] at hB
        exact hB.trans (belowK_b (w := w) (Nat.le_refl _) W D _ _ (by have := HTE.out; omega) hK rfl rfl)
end Go.Proofs.YtlogdionhgabdaaDoor
