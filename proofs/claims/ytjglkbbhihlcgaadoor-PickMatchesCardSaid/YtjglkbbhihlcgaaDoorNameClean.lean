/- The contract of name.Clean. -/
import Derived.Test.YtjglkbbhihlcgaaDoorCleanPlain
import Derived.Maps.AppendAt
set_option linter.unusedVariables false
set_option linter.unusedSimpArgs false
namespace Go.Proofs.YtjglkbbhihlcgaaDoor
open Go Go.RowKit Go.Shelf
open Sw
attribute [local go_sem] Oper.semAt_some
theorem res_str_bool {P : Program} {fn : Func} {p q : Tmp} {ty t1 : TypeId} (h : fn.results = #[.cell p ty, .cell q t1]) (tmps : Array Value) (w : World) (g g1 : Nat) (u u1 : TypeId) (s : ByteArray) (b : Bool)
    (hp : tmps.getD p undef = .pointer (some ⟨g, 0, none⟩)) (hq : tmps.getD q undef = .pointer (some ⟨g1, 0, none⟩)) (hg : Blk w g u #[.string s]) (hg1 : Blk w g1 u1 #[.bool b]) (hu : P.underlying ty = some .string) (hu1 : P.underlying t1 = some .bool) :
    (results fn tmps).run P w = .ok (.tuple #[.string s, .bool b]) w := by
  have hp' : tmps[p]?.getD undef = .pointer (some ⟨g, 0, none⟩) := by simpa using hp
  have hq' : tmps[q]?.getD undef = .pointer (some ⟨g1, 0, none⟩) := by simpa using hq
  have c1 : w.cell? ⟨g, 0, none⟩ = some (.string s) := by have := hg.cell 0; simpa using this
  have c2 : w.cell? ⟨g1, 0, none⟩ = some (.bool b) := by have := hg1.cell 0; simpa using this
  have l1 : (loadVar ty ⟨g, 0, none⟩).run P w = .ok (.string s) w := by simp [loadVar, isAgg, run_underlying hu, run_load, c1]
  have l2 : (loadVar t1 ⟨g1, 0, none⟩).run P w = .ok (.bool b) w := by simp [loadVar, isAgg, run_underlying hu1, run_load, c2]
  simp [results, h, hp', hq', asAddr, l1, l2]
theorem str_empty (x : ByteArray) : x.toList.isEmpty = decide (x = ⟨#[]⟩) := by
  rw [ByteArray.toList_eq]
  by_cases h : x = ⟨#[]⟩
  · subst h; rfl
  · rw [decide_eq_false h]
    cases hd : x.data.toList with
    | nil => exact absurd (by rw [← mkB_data x, hd]; rfl) h
    | cons a t => rfl
theorem str_is (x : ByteArray) (l : List UInt8) : (x.toList == l) = decide (x = mkB l) := by
  rw [str_eq_iff, decide_eq_decide]
  constructor
  · intro h; rw [← mkB_data x, h]
  · intro h; rw [h, data_mkB]
/-- what Clean knows between two rounds -/
def ClI (s : ByteArray) (T B : Nat) (pre : List (Pc s.size)) (W : World) : Prop :=
  (∃ l v, clFold [] (pre.map (·.1)) = some l ∧ Blk W (T + 1 + 1) 26 #[v] ∧ W.ownsRow B 9 1 v l.length (l.flatMap bE)) ∧ Blk W T 9 #[.string ⟨#[]⟩] ∧ Blk W (T + 1) 4 #[.bool false] ∧ B ≤ W.heap.size
/-- how Clean leaves a round -/
def ClX (s : ByteArray) (T : Nat) (c : Code) (pre : List (Pc s.size)) (W : World) : Prop :=
  clFold [] (pre.map (·.1)) = none ∧ c = .ret ∧ Blk W T 9 #[.string ⟨#[]⟩] ∧ Blk W (T + 1) 4 #[.bool false]
theorem clI_own {s : ByteArray} {T B M : Nat} (h1 : T + 1 + 1 < M) (h2 : M < B) : OwnM (fun k => k = M) B (ClI s T B) :=
  fun pre W W' row hs hg hr => by
    obtain ⟨⟨l, v, e1, e2, e3⟩, b1, b2, b3⟩ := hs
    exact ⟨⟨l, v, e1, blk_ownM e2 (by omega) hg hr, own_ownM e3 (fun k hk => by omega) hg hr⟩, blk_ownM b1 (by omega) hg hr, blk_ownM b2 (by omega) hg hr, Nat.le_trans b3 hg.size⟩
theorem clX_own {s : ByteArray} {T B M : Nat} (h1 : T + 1 < M) (c : Code) : OwnM (fun k => k = M) B (ClX s T c) :=
  fun pre W W' row hs hg hr => ⟨hs.1, hs.2.1, blk_ownM hs.2.2.1 (by omega) hg hr, blk_ownM hs.2.2.2 (by omega) hg hr⟩
set_option maxRecDepth 100000 in
set_option maxHeartbeats 4000000 in
theorem clean_any (w : World) (s : ByteArray) (hs : s.size ≤ 90000) :
    Calls Tryd.prog 9 #[.string s] w fun e w' => e = .returned (.tuple #[.string (cleanS s), .bool (cleanB s)]) ∧ Below w.heap.size w w' := by
  obtain ⟨i0, hi, hz0, hz1, hz2⟩ := info_parts info_str
  have HQ := Lib.hid SplitSeq_any
  have HH := Lib.hid (fun W => Tryd.strings_HasPrefix s ⟨#[47]⟩ W)
  have HC := Lib.hid (fun W => Tryd.strings_Contains_one s 0 W)
  have hb0e : bad0 s = (Lib.hasPrefix s.data.toList [47] || decide (0 ≤ Lib.indexByte s.data.toList 0)) := rfl
  have hpe : (⟨#[47]⟩ : ByteArray).data.toList = [47] := rfl
  rw [hpe] at HH
  have hcl : cleanO s = if bad0 s = true then none else clFold [] (spS s) := rfl
  have HCL := Lib.hid (And.intro hb0e hcl); clear hb0e hcl hpe
  generalize Lib.hasPrefix s.data.toList [47] = P1 at *
  generalize decide (0 ≤ Lib.indexByte s.data.toList 0) = P2 at *
  refine callsIn_wide.1 (?_ : CallsIn Fence.wide 9 _ _ _ _ _)
  refine callsIn_of_wp_marks Tryd.func9 rfl trivial ?_ rfl
  simp only [Tryd.ntmps9, List.size_toArray, List.length_cons, List.length_nil, Nat.reduceAdd, Nat.reduceSub, Array.replicate_succ, Array.replicate_zero, List.push_toArray, List.append_toArray, List.nil_append, List.cons_append]
  have hB1 := blk_fst w #[.string ⟨#[]⟩] 9 (.cells #[.bool false] 4)
  have hB2 := blk_snd w (.cells #[.string ⟨#[]⟩] 9) #[.bool false] 4
  have hb2 : Below w.heap.size w ((w.alloc (.cells #[.string ⟨#[]⟩] 9)).alloc (.cells #[.bool false] 4)) := ((Below.refl _ _).alloc (Nat.le_refl _) _).alloc (by simp) _
  have hz2' : ((w.alloc (.cells #[.string ⟨#[]⟩] 9)).alloc (.cells #[.bool false] 4)).heap.size = w.heap.size + 1 + 1 := by simp
  gi_wp2
  refine ⟨trivial, ?_⟩
  refine (callsIn_wide.2 (HH.out _)).mono ?_
  rintro e w1 ⟨rfl, rfl⟩
  generalize ((w.alloc (.cells #[.string ⟨#[]⟩] 9)).alloc (.cells #[.bool false] 4)) = w2 at *
  obtain ⟨T, hT⟩ : ∃ T, T = w.heap.size := ⟨_, rfl⟩
  rw [← hT] at hB1 hB2 hb2 hz2' ⊢
  have HTE := Lib.hid hT; clear hT
  have c0 := hB1.cell 0
  have f0 := hB1.frozen 0
  have c1 := hB2.cell 0
  have f1 := hB2.frozen 0
  simp at c0 c1
  cases P1 with
  | true =>
    have HF := Lib.hid (show cleanO s = none by rw [HCL.out.2, HCL.out.1]; rfl)
    have HV := Lib.hid (And.intro (show cleanS s = ⟨#[]⟩ by unfold cleanS; rw [HF.out]) (show cleanB s = false by unfold cleanB; rw [HF.out]))
    gi_wp2
    refine ⟨trivial, ?_⟩
    gi_wp2
    refine ⟨_, res_str_bool rfl _ _ T (T + 1) 9 4 ⟨#[]⟩ false rfl rfl ((hB1.put 0 (.string ⟨#[]⟩)).far (p := ⟨T + 1, 0, none⟩) (by dsimp only; omega) _) ((hB2.far (p := ⟨T, 0, none⟩) (by dsimp only; omega) _).put 0 (.bool false)) Tryd.underlying9 Tryd.underlying4, ?_⟩
    exact ⟨by rw [HV.out.1, HV.out.2], by rw [← HTE.out]; exact (hb2.setCell (p := ⟨T, 0, none⟩) (Nat.le_refl _) _).setCell (p := ⟨T + 1, 0, none⟩) (Nat.le_succ _) _⟩
  | false =>
    gi_wp2
    refine ⟨trivial, ?_⟩
    refine (callsIn_wide.2 (HC.out _)).mono ?_
    rintro e w3 ⟨rfl, rfl⟩
    cases P2 with
    | true =>
      have HF := Lib.hid (show cleanO s = none by rw [HCL.out.2, HCL.out.1]; rfl)
      have HV := Lib.hid (And.intro (show cleanS s = ⟨#[]⟩ by unfold cleanS; rw [HF.out]) (show cleanB s = false by unfold cleanB; rw [HF.out]))
      gi_wp2
      refine ⟨_, res_str_bool rfl _ _ T (T + 1) 9 4 ⟨#[]⟩ false rfl rfl ((hB1.put 0 (.string ⟨#[]⟩)).far (p := ⟨T + 1, 0, none⟩) (by dsimp only; omega) _) ((hB2.far (p := ⟨T, 0, none⟩) (by dsimp only; omega) _).put 0 (.bool false)) Tryd.underlying9 Tryd.underlying4, ?_⟩
      exact ⟨by rw [HV.out.1, HV.out.2], by rw [← HTE.out]; exact (hb2.setCell (p := ⟨T, 0, none⟩) (Nat.le_refl _) _).setCell (p := ⟨T + 1, 0, none⟩) (Nat.le_succ _) _⟩
    | false =>
      have HF := Lib.hid (show cleanO s = clFold [] (spS s) by rw [HCL.out.2, HCL.out.1]; rfl)
      clear HCL c0 c1 f0 f1 HH HC
      have hB3 := Blk.new w3 26 #[.slice none 0 0]
      rw [hz2'] at hB3
      replace hB1 := hB1.alloc (.cells #[.slice none 0 0] 26)
      replace hB2 := hB2.alloc (.cells #[.slice none 0 0] 26)
      replace hb2 := hb2.alloc (by omega) (.cells #[.slice none 0 0] 26)
      gi_wp2
      refine ⟨trivial, ?_⟩
      refine (callsIn_wide.2 (HQ.out _ _ _)).mono ?_
      rintro e w5 ⟨rfl, rfl⟩
      obtain ⟨w4, hw4⟩ : ∃ w4, w4 = w3.alloc (.cells #[.slice none 0 0] 26) := ⟨_, rfl⟩
      have hz4 : w4.heap.size = T + 1 + 1 + 1 := by rw [hw4]; simp [hz2']
      rw [← hw4] at hB1 hB2 hB3 hb2 ⊢
      clear hw4 hz2'
      have hS := ((Blk.new w4 9 #[.string s]).alloc (.cells #[.string ⟨#[47]⟩] 9)).alloc (.cells #[.int .i64 0] 3)
      have hP1 := (Blk.new (w4.alloc (.cells #[.string s] 9)) 9 #[.string ⟨#[47]⟩]).alloc (.cells #[.int .i64 0] 3)
      have hV := Blk.new ((w4.alloc (.cells #[.string s] 9)).alloc (.cells #[.string ⟨#[47]⟩] 9)) 3 #[.int .i64 0]
      have hA1 := ((hB1.alloc (.cells #[.string s] 9)).alloc (.cells #[.string ⟨#[47]⟩] 9)).alloc (.cells #[.int .i64 0] 3)
      have hA2 := ((hB2.alloc (.cells #[.string s] 9)).alloc (.cells #[.string ⟨#[47]⟩] 9)).alloc (.cells #[.int .i64 0] 3)
      have hA3 := ((hB3.alloc (.cells #[.string s] 9)).alloc (.cells #[.string ⟨#[47]⟩] 9)).alloc (.cells #[.int .i64 0] 3)
      have hb5 := ((hb2.alloc (by omega) (.cells #[.string s] 9)).alloc (by simp; omega) (.cells #[.string ⟨#[47]⟩] 9)).alloc (by simp; omega) (.cells #[.int .i64 0] 3)
      have hz5 : (((w4.alloc (.cells #[.string s] 9)).alloc (.cells #[.string ⟨#[47]⟩] 9)).alloc (.cells #[.int .i64 0] 3)).heap.size = T + 1 + 1 + 1 + 1 + 1 + 1 := by simp [hz4]
      simp only [World.size_alloc, hz4] at hS hP1 hV
      clear hB1 hB2 hB3 hb2
      generalize ((w4.alloc (.cells #[.string s] 9)).alloc (.cells #[.string ⟨#[47]⟩] 9)).alloc (.cells #[.int .i64 0] 3) = w5 at *
      rw [hz4]
      obtain ⟨B, hB⟩ : ∃ B, B = T + 1 + 1 + 1 + 1 + 1 + 1 := ⟨_, rfl⟩
      rw [← hB] at hz5
      gi_wp2
      refine wpIn_rangeFunc_mine (Mine := fun k => k = T + 1 + 1 + 1) (fun r h => by omega) rfl (by omega) (gf := 73) (lb := #[.pointer (some ⟨T + 1 + 1 + 1 + 1, 0, none⟩), .pointer (some ⟨T + 1 + 1 + 1, 0, none⟩), .pointer (some ⟨T + 1 + 1 + 1 + 1 + 1, 0, none⟩)]) rfl trivial (enters_of Tryd.func73 (by kernel_rfl) rfl)
        (splitSeq_owns 8 (by omega) (T + 1 + 1 + 1 + 1) (T + 1 + 1 + 1) (T + 1 + 1 + 1 + 1 + 1) s w5 (by omega) hP1 hS hV (by omega)) Kp3.trans (fun W l o o' hl _ _ _ => Kp3.turn (w := w5) (by omega) (by omega) (by omega) W l o o' hl) (Below.refl _ _) (fun _ => rfl)
        (fun pre W => ClI s T B pre W ∧ Below T w W) (fun c pre W => ClX s T c pre W ∧ Below T w W)
        (OwnM.and (by rw [hz5]; exact clI_own (by omega) (by omega)) (ownM_below (by rw [HTE.out]; exact Nat.le_refl _) (by omega) (fun r h => by omega)))
        (fun c => OwnM.and (by rw [hz5]; exact clX_own (by omega) c) (ownM_below (by rw [HTE.out]; exact Nat.le_refl _) (by omega) (fun r h => by omega)))
        ⟨⟨⟨[], .slice none 0 0, rfl, hA3, ⟨rfl, .inl ⟨rfl, rfl⟩⟩⟩, hA1, hA2, by omega⟩, hb5⟩ ?a1 ?assign ?body ?done ?stop
      case assign =>
        intro l x W K hK
        gi_wp2
        exact hK
      case body =>
        rintro l0 pre x W ⟨⟨⟨l, v, hfd, bx, hown⟩, b0, b1, hBW⟩, hbel⟩ hlt'
        have hwl := clFold_len _ _ _ hfd
        rw [List.length_map, List.length_nil] at hwl
        have hnx : clFold [] ((pre ++ [x]).map (·.1)) = clStep l x.1 := by
          rw [List.map_append, List.map_singleton, clFold_snoc, hfd]
          rfl
        have hst : clStep l x.1 = if x.1 = ⟨#[]⟩ ∨ x.1 = mkB [46] then some l else if x.1 = mkB [46, 46] then (if l = [] then none else some l.dropLast) else some (l ++ [x.1]) := rfl
        rw [hst] at hnx
        have c2 := bx.cell 0
        have f2 := bx.frozen 0
        simp at c2
        have e0 : x.1.toList.isEmpty = decide (x.1 = ⟨#[]⟩) := str_empty x.1
        have e1 : (x.1.toList == [46]) = decide (x.1 = mkB [46]) := str_is x.1 [46]
        have e2 : (x.1.toList == [46, 46]) = decide (x.1 = mkB [46, 46]) := str_is x.1 [46, 46]
        by_cases q0 : x.1 = ⟨#[]⟩
        · rw [if_pos (.inl q0)] at hnx
          rw [decide_eq_true q0] at e0
          have HN := Lib.hid hnx; clear hnx hst q0 e1 e2
          gi_wp2
          exact ⟨KeepsOthers.refl _, ⟨Nat.le_refl _, fun _ _ => rfl⟩, ⟨⟨l, v, HN.out, bx, hown⟩, b0, b1, hBW⟩, hbel⟩
        by_cases q1 : x.1 = mkB [46]
        · rw [if_pos (.inr q1)] at hnx
          rw [decide_eq_false q0] at e0
          rw [decide_eq_true q1] at e1
          have HN := Lib.hid hnx; clear hnx hst q0 q1 e2
          gi_wp2
          exact ⟨KeepsOthers.refl _, ⟨Nat.le_refl _, fun _ _ => rfl⟩, ⟨⟨l, v, HN.out, bx, hown⟩, b0, b1, hBW⟩, hbel⟩
        rw [if_neg (fun h => h.elim q0 q1)] at hnx
        rw [decide_eq_false q0] at e0
        rw [decide_eq_false q1] at e1
        by_cases q2 : x.1 = mkB [46, 46]
        · rw [if_pos q2] at hnx
          rw [decide_eq_true q2] at e2
          by_cases q3 : l = []
          · subst q3
            rw [if_pos rfl] at hnx
            obtain ⟨A, c, rfl, hc, hm, _⟩ := SlV.of_own hown bE_len (by omega)
            have d0 := b0.cell 0
            have g0 := b0.frozen 0
            have d1 := b1.cell 0
            have g1 := b1.frozen 0
            simp at d0 d1 c2
            have HN := Lib.hid (And.intro hnx (And.intro b0 (And.intro b1 hbel))); clear hnx hst q0 q1 q2 hfd hown b0 b1 hbel
            gi_wp2
            refine ⟨(KeepsOthers.setCell _ _ _).trans (KeepsOthers.setCell _ _ _), ⟨HN.out.1, rfl, (HN.out.2.1.put 0 (.string ⟨#[]⟩)).far (p := ⟨T + 1, 0, none⟩) (by dsimp only; omega) _, (HN.out.2.2.1.far (p := ⟨T, 0, none⟩) (by dsimp only; omega) _).put 0 (.bool false)⟩, (HN.out.2.2.2.setCell (p := ⟨T, 0, none⟩) (Nat.le_refl _) _).setCell (p := ⟨T + 1, 0, none⟩) (Nat.le_succ _) _⟩
          · rw [if_neg q3] at hnx
            obtain ⟨n', hn'⟩ : ∃ n', l.length = n' + 1 := ⟨l.length - 1, by have := List.length_pos_iff.2 q3; omega⟩
            have hsplit : l.flatMap bE = l.dropLast.flatMap bE ++ [.string (l.getLast q3)] := by
              conv => lhs; rw [← List.dropLast_concat_getLast q3]
              exact flat_snoc _ _
            have hdl : l.dropLast.length = n' := by rw [List.length_dropLast]; omega
            rw [hn', hsplit] at hown
            obtain ⟨g, cap, rfl, hcap1, hcap2, hown'⟩ := own_pop hown
            unfold maxLen at hcap2
            have hgl := hown'.lt g rfl
            have hown2 := hown'.kept (grown_put (grown_refl W (some (T + 1 + 1))) 0 (.slice (some ⟨g, 0, none⟩) n' cap)) (.inr (fun e => by have : g = T + 1 + 1 := Option.some.inj e; omega))
            have hne1 : ((n' : Int) + 1 == 0) = false := by rw [beq_eq_false_iff_ne]; omega
            have hnn : (n' : Int) ≤ cap := by omega
            have HN := Lib.hid (And.intro hnx (And.intro b0 (And.intro b1 (And.intro hbel (And.intro bx (And.intro hdl hown2)))))); clear hnx hst q0 q1 q2 hfd hown hown' hown2 b0 b1 hbel bx hsplit hdl
            gi_wp2
            refine ⟨KeepsOthers.setCell _ _ _, ⟨by simp [World.setCell], fun k hk => Below.heap_setCell W _ _ k (by rcases hk with rfl | rfl | rfl <;> simp <;> omega)⟩, ⟨⟨l.dropLast, .slice (some ⟨g, 0, none⟩) n' cap, HN.out.1, HN.out.2.2.2.2.1.put 0 _, ?_⟩, HN.out.2.1.far (p := ⟨T + 1 + 1, 0, none⟩) (by dsimp only; omega) _, HN.out.2.2.1.far (p := ⟨T + 1 + 1, 0, none⟩) (by dsimp only; omega) _, by simpa [World.setCell] using hBW⟩, HN.out.2.2.2.1.setCell (p := ⟨T + 1 + 1, 0, none⟩) (by dsimp only; omega) _⟩
            rw [HN.out.2.2.2.2.2.1]
            exact HN.out.2.2.2.2.2.2
        · rw [if_neg q2] at hnx
          rw [decide_eq_false q2] at e2
          have hvo : ∀ k, some k = v.ownBlock → B ≤ k := fun k hk => (hown.lt k hk.symm).1
          have hne2 : some (T + 1 + 1) ≠ v.ownBlock := fun e => by have := hvo _ e; omega
          have hl9 : l.length + 1 ≤ 100000 := by omega
          have HN := Lib.hid (And.intro hnx (And.intro b0 (And.intro b1 (And.intro hbel hown)))); clear hnx hst q0 q1 q2 hfd b0 b1 hbel
          gi_wp2_with (gi_at_builtin; refine wpListIn_append_own _ rfl _ _ 26 rfl B 9 i0 (.string ByteArray.empty) 1 16 Tryd.underlying26 hi hz0 hz1 hz2 rfl (by decide) v l.length _ rfl (hown.alloc _) ⟨W.heap.size, 0, none⟩ 1 1 [.string x.1] rfl rfl (cell_one_new _ _ _) (by simp [Value.oneCell']) (by unfold maxLen; omega) (by omega) (by simp; omega) ?_; intro v' w6 hown' hgrow _; obtain ⟨g', cap', rfl⟩ := ownsRow_succ hown'; have hb6 := (bx.alloc (.cells #[.string x.1] 9)).grown hgrow hne2; have cc := hb6.cell 0; have ff := hb6.frozen 0; simp at cc)
          have hg' := (hown'.lt g' rfl).1
          have b1' := hb6.put 0 (.slice (some ⟨g', 0, none⟩) (l.length + 1) cap')
          have hko := (KeepsOthers.alloc W (.cells #[.string x.1] 9)).trans ((keeps_own (hown.alloc _) hgrow).trans (KeepsOthers.setCell w6 ⟨T + 1 + 1, 0, none⟩ (.slice (some ⟨g', 0, none⟩) (l.length + 1) cap')))
          have hrow6 := hown'.kept (grown_put (grown_refl w6 (some (T + 1 + 1))) 0 (.slice (some ⟨g', 0, none⟩) (l.length + 1) cap')) (.inr (fun e => by have : g' = T + 1 + 1 := Option.some.inj e; omega))
          have hsame : ∀ k, k < B → k ≠ T + 1 + 1 → (w6.setCell ⟨T + 1 + 1, 0, none⟩ (.slice (some ⟨g', 0, none⟩) (l.length + 1) cap')).heap[k]? = W.heap[k]? := fun k hk hk2 => by
            refine (Below.heap_setCell w6 ⟨T + 1 + 1, 0, none⟩ _ k hk2).trans ?_
            rw [hgrow.block k (by simp; omega) (fun e => by have := hvo _ e; omega)]
            exact Below.heap_alloc W _ k (by omega)
          have hsz6 : W.heap.size ≤ (w6.setCell ⟨T + 1 + 1, 0, none⟩ (.slice (some ⟨g', 0, none⟩) (l.length + 1) cap')).heap.size := by
            have := hgrow.size
            simp [World.setCell] at this ⊢; omega
          have hB6 := ((HN.out.2.2.2.1.alloc (by omega) (.cells #[.string x.1] 9)).grown hgrow (by simp; omega) (fun k hk => by have := hvo _ hk.symm; omega)).setCell (p := ⟨T + 1 + 1, 0, none⟩) (by dsimp only; omega) (.slice (some ⟨g', 0, none⟩) (l.length + 1) cap')
          refine ⟨hko, ⟨hsz6, fun k hk => hsame k (by omega) (by omega)⟩, ⟨⟨l ++ [x.1], _, HN.out.1, b1', ?_⟩, (hsame T (by omega) (by omega)).trans HN.out.2.1, (hsame (T + 1) (by omega) (by omega)).trans HN.out.2.2.1, Nat.le_trans hBW hsz6⟩, hB6⟩
          rw [flat_snoc, List.length_append, List.length_singleton]
          exact hrow6
      case done =>
        rintro D ys W hD hS' ⟨⟨⟨l, v, hfd, bx, hown⟩, b0, b1, hBW⟩, hbel⟩ hK
        have hO : cleanO s = some l := by rw [HF.out, ← hS']; exact hfd
        have HV := Lib.hid (And.intro (show cleanS s = joinS l by unfold cleanS; rw [hO]) (show cleanB s = joinB l by unfold cleanB; rw [hO]))
        have hwt := clFold_wt _ _ _ hfd
        rw [hS', spS_wt] at hwt
        have h2 : wt [] = 0 := rfl
        have hwl := wt_len l
        have hwj := wt_jn l
        obtain ⟨A, c, rfl, hc, hm, hsl⟩ := SlV.of_own hown bE_len (by omega)
        have hj := nameJoin_any W A l.length c l rfl (by omega) hc hsl (by omega)
        have c2 := bx.cell 0
        simp at c2
        have HJ := Lib.hid hj; clear hj hfd hO hwt hwl hwj hsl hown
        have HH := Lib.hid (And.intro b0 (And.intro b1 (And.intro hbel hK))); clear b0 b1 hbel hK
        gi_wp2
        refine ⟨trivial, ?_⟩
        refine (callsIn_wide.2 HJ.out).mono ?_
        rintro e w6 ⟨rfl, hb6⟩
        have hDlt : D < W.heap.size := (Array.getElem?_eq_some_iff.1 HH.out.2.2.2).1
        have a0 := HH.out.1.below hb6 HH.out.1.lt
        have a1 := HH.out.2.1.below hb6 HH.out.2.1.lt
        have aK := (hb6.block D hDlt).trans HH.out.2.2.2
        have aB := HH.out.2.2.1.trans (hb6.mono (by omega))
        have d0 := a0.cell 0
        have g0 := a0.frozen 0
        have d1 := a1.cell 0
        have g1 := a1.frozen 0
        simp at d0 d1
        have a0' := (a0.put 0 (.string (joinS l))).far (p := ⟨T + 1, 0, none⟩) (by dsimp only; omega) (.bool (joinB l))
        have a1' := (a1.far (p := ⟨T, 0, none⟩) (by dsimp only; omega) (.string (joinS l))).put 0 (.bool (joinB l))
        have aB' := (aB.setCell (p := ⟨T, 0, none⟩) (Nat.le_refl T) (.string (joinS l))).setCell (p := ⟨T + 1, 0, none⟩) (Nat.le_succ T) (.bool (joinB l))
        have aK' := ((KeepsOthers.setCell w6 ⟨T, 0, none⟩ (.string (joinS l))).trans (KeepsOthers.setCell _ ⟨T + 1, 0, none⟩ (.bool (joinB l)))).same D _ aK rfl
        have HG := Lib.hid (And.intro a0' (And.intro a1' (And.intro aB' aK'))); clear a0 a1 aK aB a0' a1' aB' aK'
        obtain ⟨W7, hW7⟩ : ∃ W7, W7 = (w6.setCell ⟨T, 0, none⟩ (.string (joinS l))).setCell ⟨T + 1, 0, none⟩ (.bool (joinB l)) := ⟨_, rfl⟩
        rw [← hW7] at HG
        have HW7 := Lib.hid hW7; clear hW7
        gi_wp2
        rw [← HW7.out]
        refine ⟨by simp, .inl ⟨_, _, rfl, run_takeDeferred HG.out.2.2.2, ?_⟩⟩
        refine ⟨_, res_str_bool rfl _ _ T (T + 1) 9 4 (joinS l) (joinB l) rfl rfl (HG.out.1.grown (grownBy_putObj' W7 D (.deferred none)) (fun e => by cases e; omega)) (HG.out.2.1.grown (grownBy_putObj' W7 D (.deferred none)) (fun e => by cases e; omega)) Tryd.underlying9 Tryd.underlying4, by rw [HV.out.1, HV.out.2], ?_⟩
        have hb := HG.out.2.2.1
        rw [HTE.out] at hb
        exact hb.trans (belowK_b (w := w) (Nat.le_refl _) W7 D _ _ (by have := HTE.out; omega) HG.out.2.2.2 rfl rfl)
      case stop =>
        rintro D c pre W hD hSp ⟨⟨hfd, rfl, b0, b1⟩, hbel⟩ hK
        obtain ⟨r', hr'⟩ := hSp
        have hO : cleanO s = none := by rw [HF.out, hr']; exact clFold_none _ _ _ hfd
        have HV := Lib.hid (And.intro (show cleanS s = ⟨#[]⟩ by unfold cleanS; rw [hO]) (show cleanB s = false by unfold cleanB; rw [hO]))
        clear hr' hfd hO
        gi_wp2
        refine ⟨by simp, .inl ⟨_, _, rfl, run_takeDeferred hK, ?_⟩⟩
        refine ⟨_, res_str_bool rfl _ _ T (T + 1) 9 4 ⟨#[]⟩ false rfl rfl (b0.grown (grownBy_putObj' W D (.deferred none)) (fun e => by cases e; omega)) (b1.grown (grownBy_putObj' W D (.deferred none)) (fun e => by cases e; omega)) Tryd.underlying9 Tryd.underlying4, by rw [HV.out.1, HV.out.2], ?_⟩
        rw [HTE.out] at hbel
        exact hbel.trans (belowK_b (w := w) (Nat.le_refl _) W D _ _ (by have := HTE.out; omega) hK rfl rfl)
end Go.Proofs.YtjglkbbhihlcgaaDoor
