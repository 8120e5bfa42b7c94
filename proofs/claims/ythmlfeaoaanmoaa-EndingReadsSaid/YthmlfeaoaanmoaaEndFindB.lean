/- The contract of ending.Find. -/
import Derived.Test.YthmlfeaoaanmoaaEndFind
set_option linter.unusedVariables false
set_option linter.unusedSimpArgs false
namespace Go.Proofs.Ythmlfeaoaanmoaa
open Go Go.RowKit Go.Shelf
open Sw
attribute [local go_sem] Oper.semAt_some
theorem keeps_below {W W' : World} (h : Below W.heap.size W W') : KeepsOthers W W' := ⟨h.size, fun k o hk _ => by rw [h.block k (Array.getElem?_eq_some_iff.1 hk).1]; exact hk⟩
theorem res_cells3 {P : Program} {fn : Func} {p q r : Tmp} {ty t1 t2 : TypeId} (h : fn.results = #[.cell p ty, .cell q t1, .cell r t2]) (tmps : Array Value) (w : World) (g g1 g2 : Nat) (t u1 u2 : TypeId) (cs : Array Value) (d : TypeDesc) (x : Int) (b : Bool)
    (hp : tmps.getD p undef = .pointer (some ⟨g, 0, none⟩)) (hq : tmps.getD q undef = .pointer (some ⟨g1, 0, none⟩)) (hr : tmps.getD r undef = .pointer (some ⟨g2, 0, none⟩)) (hg : Blk w g t cs) (hg1 : Blk w g1 u1 #[.int .i64 x]) (hg2 : Blk w g2 u2 #[.bool b])
    (hu : P.underlying ty = some d) (hd : (match d with | .struct _ | .array _ _ => true | _ => false) = true) (hi : (P.info? ty).map (·.size) = some cs.size) (hu1 : P.underlying t1 = some (.int .i64)) (hu2 : P.underlying t2 = some .bool) :
    (results fn tmps).run P w = .ok (.tuple #[.agg cs, .int .i64 x, .bool b]) w := by
  have hp' : tmps[p]?.getD undef = .pointer (some ⟨g, 0, none⟩) := by simpa using hp
  have hq' : tmps[q]?.getD undef = .pointer (some ⟨g1, 0, none⟩) := by simpa using hq
  have hr' : tmps[r]?.getD undef = .pointer (some ⟨g2, 0, none⟩) := by simpa using hr
  have c1 : w.cell? ⟨g1, 0, none⟩ = some (.int .i64 x) := by have := hg1.cell 0; simpa using this
  have c2 : w.cell? ⟨g2, 0, none⟩ = some (.bool b) := by have := hg2.cell 0; simpa using this
  have l1 : (loadVar t1 ⟨g1, 0, none⟩).run P w = .ok (.int .i64 x) w := by simp [loadVar, isAgg, run_underlying hu1, run_load, c1]
  have l2 : (loadVar t2 ⟨g2, 0, none⟩).run P w = .ok (.bool b) w := by simp [loadVar, isAgg, run_underlying hu2, run_load, c2]
  simp [results, h, hp', hq', hr', asAddr, run_loadVar_row w g t ty cs (0, 0) d hg hu hd hi, l1, l2]
theorem find_split (s : ByteArray) (k : Nat) (pre : List Nat) (x : Nat) (h : ∃ r, downs k = (pre ++ [x]) ++ r) (hno : ∀ y ∈ pre, okR (s.extract y s.size) = false) (hx : okR (s.extract x s.size) = true) : findF s k = some x := by
  obtain ⟨r, hr⟩ := h
  rw [findF_downs, hr, List.append_assoc, List.find?_append]
  rw [List.find?_eq_none.2 (fun y hy => by simpa using hno y hy)]
  simp [hx]
theorem find_none (s : ByteArray) (k : Nat) (hno : ∀ y ∈ downs k, okR (s.extract y s.size) = false) : findF s k = none := by
  rw [findF_downs]
  exact List.find?_eq_none.2 (fun y hy => by simpa using hno y hy)
set_option maxRecDepth 100000 in
set_option maxHeartbeats 4000000 in
theorem endFind_any (s : ByteArray) (w : World) (hs : s.size ≤ 400) :
    Calls Try.prog 50 #[.string s] w fun e w' => e = .returned (.tuple #[.agg (findC s), .int .i64 (findN s), .bool (findB s)]) ∧ Below w.heap.size w w' := by
  have hRd := fun (k : Nat) (hk : k + 22 ≤ s.size) W => endRead_in s k W (by unfold maxLen; omega) (by omega)
  have hRd2 : ∀ (k : Nat) (hk : k + 22 ≤ s.size) W, Calls Try.prog 48 #[.string s, .int .i64 k] W fun e w' => e = .returned (endW (s.extract k s.size)) ∧ Below W.heap.size W w' := fun k hk W => by
    rw [← end_eq (s.extract k s.size) (by rw [ext_size s k (by omega)]; omega)]; exact hRd k hk W
  have HRD := Lib.hid hRd2; clear hRd hRd2
  refine callsIn_wide.1 (?_ : CallsIn Fence.wide 9 _ _ _ _ _)
  refine callsIn_of_wp_marks Try.func50 rfl trivial ?_ rfl
  simp only [Try.ntmps50, List.size_toArray, List.length_cons, List.length_nil, Nat.reduceAdd, Nat.reduceSub, Array.replicate_succ, Array.replicate_zero, List.push_toArray, List.append_toArray, List.nil_append, List.cons_append]
  gi_wp2
  refine ⟨trivial, ?_⟩
  refine (callsIn_wide.2 (endPlaces_any _ (.string s) rfl)).mono ?_
  rintro e w5 ⟨rfl, rfl⟩
  gi_wp2
  have hT0 := (((Blk.new w 9 #[.string s]).alloc (.cells agZ 84)).alloc (.cells #[.int .i64 0] 3)).alloc (.cells #[.bool false] 4)
  have hT1 := ((Blk.new (w.alloc (.cells #[.string s] 9)) 84 agZ).alloc (.cells #[.int .i64 0] 3)).alloc (.cells #[.bool false] 4)
  have hT2 := (Blk.new ((w.alloc (.cells #[.string s] 9)).alloc (.cells agZ 84)) 3 #[.int .i64 0]).alloc (.cells #[.bool false] 4)
  have hT3 := Blk.new (((w.alloc (.cells #[.string s] 9)).alloc (.cells agZ 84)).alloc (.cells #[.int .i64 0] 3)) 4 #[.bool false]
  have hB3 : Below w.heap.size w ((((w.alloc (.cells #[.string s] 9)).alloc (.cells agZ 84)).alloc (.cells #[.int .i64 0] 3)).alloc (.cells #[.bool false] 4)) :=
    ((((Below.refl _ w).alloc (Nat.le_refl _) _).alloc (by simp) _).alloc (by simp; omega) _).alloc (by simp; omega) _
  have hz3 : ((((w.alloc (.cells #[.string s] 9)).alloc (.cells agZ 84)).alloc (.cells #[.int .i64 0] 3)).alloc (.cells #[.bool false] 4)).heap.size = w.heap.size + 1 + 1 + 1 + 1 := by simp
  simp only [World.size_alloc] at hT0 hT1 hT2 hT3
  unfold agZ at hT0 hT1 hT2 hT3 hB3 hz3
  generalize ((((w.alloc (.cells #[.string s] 9)).alloc (.cells #[.int .i64 0, .int .i64 0, .int .i64 0, .int .i64 0] 84)).alloc (.cells #[.int .i64 0] 3)).alloc (.cells #[.bool false] 4)) = w3 at *
  have hT4 := Blk.new w3 9 #[.string s]
  rw [hz3] at hT4
  have hs4 := hT4.cell 0
  replace hT0 := hT0.alloc (.cells #[.string s] 9)
  replace hT1 := hT1.alloc (.cells #[.string s] 9)
  replace hT2 := hT2.alloc (.cells #[.string s] 9)
  replace hT3 := hT3.alloc (.cells #[.string s] 9)
  have hB4 := hB3.alloc (by omega) (.cells #[.string s] 9)
  have hz4 : (w3.alloc (.cells #[.string s] 9)).heap.size = w.heap.size + 1 + 1 + 1 + 1 + 1 := by simp [hz3]
  clear hT4 hB3 hz3
  generalize w3.alloc (.cells #[.string s] 9) = w4 at *
  obtain ⟨T, hT⟩ : ∃ T, T = w.heap.size := ⟨_, rfl⟩
  rw [← hT] at hT0 hT1 hT2 hT3 hB4 hz4 hs4 ⊢
  have HTE := Lib.hid hT; clear hT
  refine wpIn_rangeFunc_ownF rfl (by omega) (gf := 85) (lb := #[.pointer (some ⟨T + 1 + 1 + 1 + 1, 0, none⟩)]) rfl trivial (enters_of Try.func85 (by kernel_rfl) rfl)
    (endPlaces_stops 8 (by omega) (T + 1 + 1 + 1 + 1) s w4 hs (by simpa using hs4) (by omega)) Below.trans (belowK_b (Nat.le_refl _)) (Below.refl _ _) (fun _ => rfl)
    (fun pre W => ((((((∀ y ∈ pre.map (·.1), okR (s.extract y s.size) = false) ∧ w4.heap.size ≤ W.heap.size) ∧ Blk W T 9 #[.string s]) ∧ Blk W (T + 1) 84 agZ) ∧ Blk W (T + 1 + 1) 3 #[.int .i64 0]) ∧ Blk W (T + 1 + 1 + 1) 4 #[.bool false]) ∧ Below T w W)
    (fun c pre W => (((∃ (pre' : List (Plc s)) (x : Plc s), pre = pre' ++ [x] ∧ (∀ y ∈ pre'.map (·.1), okR (s.extract y s.size) = false) ∧ okR (s.extract x.1 s.size) = true ∧ c = .ret ∧ Blk W (T + 1) 84 (agW (s.extract x.1 s.size)) ∧ Blk W (T + 1 + 1) 3 #[.int .i64 x.1] ∧ Blk W (T + 1 + 1 + 1) 4 #[.bool true]))) ∧ Below T w W)
    (OwnFrom.and (Own.from (I := fun (pre : List (Plc s)) W => (((((∀ y ∈ pre.map (·.1), okR (s.extract y s.size) = false) ∧ w4.heap.size ≤ W.heap.size) ∧ Blk W T 9 #[.string s]) ∧ Blk W (T + 1) 84 agZ) ∧ Blk W (T + 1 + 1) 3 #[.int .i64 0]) ∧ Blk W (T + 1 + 1 + 1) 4 #[.bool false]) (fun _ A B row hs hg hr => ⟨⟨⟨⟨⟨hs.1.1.1.1.1, Nat.le_trans hs.1.1.1.1.2 hg.size⟩, blk_ownE hs.1.1.1.2 hg hr⟩, blk_ownE hs.1.1.2 hg hr⟩, blk_ownE hs.1.2 hg hr⟩, blk_ownE hs.2 hg hr⟩) _) (ownFrom_below (by have := HTE.out; omega) (by omega)))
    (fun c => OwnFrom.and (Own.from (I := fun (pre : List (Plc s)) W => ∃ (pre' : List (Plc s)) (x : Plc s), pre = pre' ++ [x] ∧ (∀ y ∈ pre'.map (·.1), okR (s.extract y s.size) = false) ∧ okR (s.extract x.1 s.size) = true ∧ c = .ret ∧ Blk W (T + 1) 84 (agW (s.extract x.1 s.size)) ∧ Blk W (T + 1 + 1) 3 #[.int .i64 x.1] ∧ Blk W (T + 1 + 1 + 1) 4 #[.bool true]) (fun _ A B row hs hg hr => by obtain ⟨p', x, e1, e2, e3, e4, b1, b2, b3⟩ := hs; exact ⟨p', x, e1, e2, e3, e4, blk_ownE b1 hg hr, blk_ownE b2 hg hr, blk_ownE b3 hg hr⟩) _) (ownFrom_below (by have := HTE.out; omega) (by omega)))
    ⟨⟨⟨⟨⟨⟨by simp, Nat.le_refl _⟩, hT0⟩, hT1⟩, hT2⟩, hT3⟩, hB4⟩
    (fun x : Plc s => { tmps := #[.string s, .pointer (some ⟨T, 0, none⟩), .pointer (some ⟨T + 1, 0, none⟩), .pointer (some ⟨T + 1 + 1, 0, none⟩), .pointer (some ⟨T + 1 + 1 + 1, 0, none⟩), .int .i64 x.1, undef, undef, .string s, .func (.func 85) #[] #[.pointer (some ⟨T + 1 + 1 + 1 + 1, 0, none⟩)], .int .i64 x.1, undef, undef, undef, undef, undef, undef, undef, undef, undef, undef], defers := [] }) ?assign ?body ?done ?stop
  case assign =>
    intro l x W K hK
    gi_wp2
    exact hK
  case body =>
    rintro l pre ⟨k, hk⟩ W ⟨⟨⟨⟨⟨⟨hno, hzz⟩, b0⟩, b1⟩, b2⟩, b3⟩, hB⟩ hlt
    have hrd := HRD.out k hk W
    have m0 := b0.cell 0
    simp at m0
    cases hok : okR (s.extract k s.size) with
    | true =>
      have hw : endW (s.extract k s.size) = .tuple #[.agg (agW (s.extract k s.size)), .bool true] := by unfold endW; rw [if_pos hok]; rfl
      rw [hw] at hrd
      have hag : agW (s.extract k s.size) = #[.int .i64 (numL (s.extract k s.size) 8 2), .int .i64 (numL (s.extract k s.size) 12 4), .int .i64 (numL (s.extract k s.size) 16 4), .int .i64 (numL (s.extract k s.size) 20 2)] := rfl
      rw [hag] at hrd
      have HX := Lib.hid (And.intro hno (And.intro hok hag)); clear hno hok hw hag
      generalize (numL (s.extract k s.size) 8 2) = v2 at *
      generalize (numL (s.extract k s.size) 12 4) = v4 at *
      generalize (numL (s.extract k s.size) 16 4) = v5 at *
      generalize (numL (s.extract k s.size) 20 2) = v6 at *
      have HH := Lib.hid (And.intro b0 (And.intro b1 (And.intro b2 (And.intro b3 hB)))); clear b0 b1 b2 b3 hB
      have HR := Lib.hid hrd; clear hrd
      gi_wp2
      refine ⟨trivial, ?_⟩
      refine (CallsIn.inRound l (callsIn_wide.2 HR.out)).mono ?_
      rintro e w6 ⟨rfl, h6⟩
      have hzW : T + 1 + 1 + 1 + 1 ≤ W.heap.size := by have := HH.out.2.2.2.1.lt; omega
      have b1 := (HH.out.2.1.below h6 HH.out.2.1.lt).alloc (.cells #[.int .i64 (v2 : Int), .int .i64 (v4 : Int), .int .i64 (v5 : Int), .int .i64 (v6 : Int)] 84)
      have b2 := (HH.out.2.2.1.below h6 HH.out.2.2.1.lt).alloc (.cells #[.int .i64 (v2 : Int), .int .i64 (v4 : Int), .int .i64 (v5 : Int), .int .i64 (v6 : Int)] 84)
      have b3 := (HH.out.2.2.2.1.below h6 HH.out.2.2.2.1.lt).alloc (.cells #[.int .i64 (v2 : Int), .int .i64 (v4 : Int), .int .i64 (v5 : Int), .int .i64 (v6 : Int)] 84)
      have hbW := h6.alloc h6.size (.cells #[.int .i64 (v2 : Int), .int .i64 (v4 : Int), .int .i64 (v5 : Int), .int .i64 (v6 : Int)] 84)
      unfold agZ at b1
      have c10 := b1.cell 0
      have c11 := b1.cell 1
      have c12 := b1.cell 2
      have c13 := b1.cell 3
      have f10 := b1.frozen 0
      have f11 := b1.frozen 1
      have f12 := b1.frozen 2
      have f13 := b1.frozen 3
      have c20 := b2.cell 0
      have f20 := b2.frozen 0
      have c30 := b3.cell 0
      have f30 := b3.frozen 0
      simp at c10 c11 c12 c13 c20 c30
      have HS := Lib.hid (And.intro b1 (And.intro b2 (And.intro b3 hbW))); clear b1 b2 b3 hbW
      gi_wp2
      refine ⟨(((((((keeps_below h6).trans (KeepsOthers.alloc _ _)).trans (KeepsOthers.setCell _ _ _)).trans (KeepsOthers.setCell _ _ _)).trans (KeepsOthers.setCell _ _ _)).trans (KeepsOthers.setCell _ _ _)).trans (KeepsOthers.setCell _ _ _)).trans (KeepsOthers.setCell _ _ _), ⟨pre, ⟨k, hk⟩, rfl, HX.out.1, HX.out.2.1, rfl, ?_, ?_, ?_⟩, ?_⟩
      · rw [HX.out.2.2]
        exact (((((HS.out.1.put 0 (.int .i64 (v2 : Int))).put 1 (.int .i64 (v4 : Int))).put 2 (.int .i64 (v5 : Int))).put 3 (.int .i64 (v6 : Int))).far (p := ⟨T + 1 + 1, 0, none⟩) (by dsimp only; omega) _).far (p := ⟨T + 1 + 1 + 1, 0, none⟩) (by dsimp only; omega) _
      · exact (((((HS.out.2.1.far (p := ⟨T + 1, 0, none⟩) (by dsimp only; omega) _).far (p := ⟨T + 1, 1, none⟩) (by dsimp only; omega) _).far (p := ⟨T + 1, 2, none⟩) (by dsimp only; omega) _).far (p := ⟨T + 1, 3, none⟩) (by dsimp only; omega) _).put 0 (.int .i64 (k : Int))).far (p := ⟨T + 1 + 1 + 1, 0, none⟩) (by dsimp only; omega) _
      · exact (((((HS.out.2.2.1.far (p := ⟨T + 1, 0, none⟩) (by dsimp only; omega) _).far (p := ⟨T + 1, 1, none⟩) (by dsimp only; omega) _).far (p := ⟨T + 1, 2, none⟩) (by dsimp only; omega) _).far (p := ⟨T + 1, 3, none⟩) (by dsimp only; omega) _).far (p := ⟨T + 1 + 1, 0, none⟩) (by dsimp only; omega) _).put 0 (.bool true)
      · exact ((((((HH.out.2.2.2.2.trans (HS.out.2.2.2.mono (by omega))).setCell (p := ⟨T + 1, 0, none⟩) (by dsimp only; omega) _).setCell (p := ⟨T + 1, 1, none⟩) (by dsimp only; omega) _).setCell (p := ⟨T + 1, 2, none⟩) (by dsimp only; omega) _).setCell (p := ⟨T + 1, 3, none⟩) (by dsimp only; omega) _).setCell (p := ⟨T + 1 + 1, 0, none⟩) (by dsimp only; omega) _).setCell (p := ⟨T + 1 + 1 + 1, 0, none⟩) (by dsimp only; omega) _
    | false =>
      have hw : endW (s.extract k s.size) = .tuple #[.agg #[.int .i64 0, .int .i64 0, .int .i64 0, .int .i64 0], .bool false] := by unfold endW; rw [hok]; rfl
      rw [hw] at hrd
      have HH := Lib.hid (And.intro b0 (And.intro b1 (And.intro b2 (And.intro b3 hB)))); clear b0 b1 b2 b3 hB
      have HR := Lib.hid hrd; clear hrd
      have HX := Lib.hid (And.intro hno hok); clear hno hok hw
      gi_wp2
      refine ⟨trivial, ?_⟩
      refine (CallsIn.inRound l (callsIn_wide.2 HR.out)).mono ?_
      rintro e w6 ⟨rfl, h6⟩
      gi_wp2
      refine ⟨(keeps_below h6).trans (KeepsOthers.alloc _ _), (h6.mono hzz).alloc (Nat.le_trans hzz h6.size) _, ⟨⟨⟨⟨⟨⟨?_, ?_⟩, ?_⟩, ?_⟩, ?_⟩, ?_⟩, ?_⟩⟩
      · intro y hy
        rw [List.map_append] at hy
        rcases List.mem_append.1 hy with h | h
        · exact HX.out.1 y h
        · simp at h; subst h; exact HX.out.2
      · have := h6.size; simp; omega
      · exact (HH.out.1.below h6 HH.out.1.lt).alloc _
      · exact (HH.out.2.1.below h6 HH.out.2.1.lt).alloc _
      · exact (HH.out.2.2.1.below h6 HH.out.2.2.1.lt).alloc _
      · exact (HH.out.2.2.2.1.below h6 HH.out.2.2.2.1.lt).alloc _
      · exact (HH.out.2.2.2.2.trans (h6.mono (by have := HH.out.1.lt; omega))).alloc (by have := HH.out.1.lt; have := h6.size; omega) _
  case done =>
    rintro D ys W hD hS ⟨⟨⟨⟨⟨⟨hno, hzz⟩, b0⟩, b1⟩, b2⟩, b3⟩, hB⟩ hK
    have hfn : findF s ((s.size : Int) - 21).toNat = none := find_none s _ (by rw [← hS]; exact hno)
    have e1 : findC s = agZ := by unfold findC; rw [hfn]
    have e2 : findN s = 0 := by unfold findN; rw [hfn]
    have e3 : findB s = false := by unfold findB; rw [hfn]
    have HE := Lib.hid (And.intro e1 (And.intro e2 e3)); clear e1 e2 e3
    unfold agZ at b1
    have c10 := b1.cell 0
    have c11 := b1.cell 1
    have c12 := b1.cell 2
    have c13 := b1.cell 3
    have f10 := b1.frozen 0
    have f11 := b1.frozen 1
    have f12 := b1.frozen 2
    have f13 := b1.frozen 3
    have c20 := b2.cell 0
    have f20 := b2.frozen 0
    have c30 := b3.cell 0
    have f30 := b3.frozen 0
    simp at c10 c11 c12 c13 c20 c30
    have HH := Lib.hid (And.intro b1 (And.intro b2 (And.intro b3 (And.intro hB hK)))); clear b0 b1 b2 b3 hB hK
    clear hfn hno
    have hD' : w.heap.size ≤ D := by have := HTE.out; omega
    obtain ⟨W6, hW6⟩ : ∃ W6, W6 = ((((((W.setCell ⟨T + 1, 0, none⟩ (.int .i64 0)).setCell ⟨T + 1, 1, none⟩ (.int .i64 0)).setCell ⟨T + 1, 2, none⟩ (.int .i64 0)).setCell ⟨T + 1, 3, none⟩ (.int .i64 0)).setCell ⟨T + 1 + 1, 0, none⟩ (.int .i64 0)).setCell ⟨T + 1 + 1 + 1, 0, none⟩ (.bool false)) := ⟨_, rfl⟩
    have hB6 : Below T w W6 := by
      rw [hW6]
      exact ((((((HH.out.2.2.2.1.setCell (p := ⟨T + 1, 0, none⟩) (by dsimp only; omega) (.int .i64 0)).setCell (p := ⟨T + 1, 1, none⟩) (by dsimp only; omega) (.int .i64 0)).setCell (p := ⟨T + 1, 2, none⟩) (by dsimp only; omega) (.int .i64 0)).setCell (p := ⟨T + 1, 3, none⟩) (by dsimp only; omega) (.int .i64 0)).setCell (p := ⟨T + 1 + 1, 0, none⟩) (by dsimp only; omega) (.int .i64 0)).setCell (p := ⟨T + 1 + 1 + 1, 0, none⟩) (by dsimp only; omega) (.bool false))
    have hK6 : W6.heap[D]? = some (Obj.deferred (some [])) := by
      rw [hW6]
      exact (((((((KeepsOthers.refl W).trans (KeepsOthers.setCell _ ⟨T + 1, 0, none⟩ (.int .i64 0))).trans (KeepsOthers.setCell _ ⟨T + 1, 1, none⟩ (.int .i64 0))).trans (KeepsOthers.setCell _ ⟨T + 1, 2, none⟩ (.int .i64 0))).trans (KeepsOthers.setCell _ ⟨T + 1, 3, none⟩ (.int .i64 0))).trans (KeepsOthers.setCell _ ⟨T + 1 + 1, 0, none⟩ (.int .i64 0))).trans (KeepsOthers.setCell _ ⟨T + 1 + 1 + 1, 0, none⟩ (.bool false))).same D _ HH.out.2.2.2.2 rfl
    have b1 : Blk W6 (T + 1) 84 agZ := by
      rw [hW6]
      exact ((((((HH.out.1.put 0 (.int .i64 0)).put 1 (.int .i64 0)).put 2 (.int .i64 0)).put 3 (.int .i64 0)).far (p := ⟨T + 1 + 1, 0, none⟩) (by dsimp only; omega) (.int .i64 0)).far (p := ⟨T + 1 + 1 + 1, 0, none⟩) (by dsimp only; omega) (.bool false))
    have b2 : Blk W6 (T + 1 + 1) 3 #[.int .i64 0] := by
      rw [hW6]
      exact ((((((HH.out.2.1.far (p := ⟨T + 1, 0, none⟩) (by dsimp only; omega) (.int .i64 0)).far (p := ⟨T + 1, 1, none⟩) (by dsimp only; omega) (.int .i64 0)).far (p := ⟨T + 1, 2, none⟩) (by dsimp only; omega) (.int .i64 0)).far (p := ⟨T + 1, 3, none⟩) (by dsimp only; omega) (.int .i64 0)).put 0 (.int .i64 0)).far (p := ⟨T + 1 + 1 + 1, 0, none⟩) (by dsimp only; omega) (.bool false))
    have b3 : Blk W6 (T + 1 + 1 + 1) 4 #[.bool false] := by
      rw [hW6]
      exact ((((((HH.out.2.2.1.far (p := ⟨T + 1, 0, none⟩) (by dsimp only; omega) (.int .i64 0)).far (p := ⟨T + 1, 1, none⟩) (by dsimp only; omega) (.int .i64 0)).far (p := ⟨T + 1, 2, none⟩) (by dsimp only; omega) (.int .i64 0)).far (p := ⟨T + 1, 3, none⟩) (by dsimp only; omega) (.int .i64 0)).far (p := ⟨T + 1 + 1, 0, none⟩) (by dsimp only; omega) (.int .i64 0)).put 0 (.bool false))
    rw [HTE.out] at hB6
    have HF := Lib.hid (And.intro hB6 (And.intro hK6 (And.intro b1 (And.intro b2 b3)))); clear hB6 hK6 b1 b2 b3
    have HW6 := Lib.hid hW6; clear hW6
    gi_wp2
    rw [← HW6.out]
    refine ⟨by simp, .inl ⟨_, _, rfl, run_takeDeferred HF.out.2.1, ?_⟩⟩
    refine ⟨_, res_cells3 rfl _ _ (T + 1) (T + 1 + 1) (T + 1 + 1 + 1) 84 3 4 agZ _ 0 false rfl rfl rfl (blk_ownE HF.out.2.2.1 (grownBy_putObj' _ D (.deferred none)) (fun r e => by cases e; exact ⟨_, HF.out.2.1, rfl⟩)) (blk_ownE HF.out.2.2.2.1 (grownBy_putObj' _ D (.deferred none)) (fun r e => by cases e; exact ⟨_, HF.out.2.1, rfl⟩)) (blk_ownE HF.out.2.2.2.2 (grownBy_putObj' _ D (.deferred none)) (fun r e => by cases e; exact ⟨_, HF.out.2.1, rfl⟩)) Try.underlying84 rfl (by kernel_rfl) Try.underlying3 Try.underlying4, by rw [HE.out.1, HE.out.2.1, HE.out.2.2], ?_⟩
    exact HF.out.1.trans (belowK_b (w := w) (Nat.le_refl _) _ D _ _ hD' HF.out.2.1 rfl rfl)
  case stop =>
    rintro D c pre W hD hSp ⟨⟨p', x, rfl, hno, hx, rfl, b1, b2, b3⟩, hB⟩ hK
    have hfn : findF s ((s.size : Int) - 21).toNat = some x.1 := find_split s _ (p'.map (·.1)) x.1 (by rw [List.map_append] at hSp; exact hSp) hno hx
    have e1 : findC s = agW (s.extract x.1 s.size) := by unfold findC; rw [hfn]
    have e2 : findN s = x.1 := by unfold findN; rw [hfn]
    have e3 : findB s = true := by unfold findB; rw [hfn]
    have HE := Lib.hid (And.intro e1 (And.intro e2 e3)); clear e1 e2 e3
    have hD' : w.heap.size ≤ D := by have := HTE.out; omega
    have hb := hB
    have hw := fun r e => show ∃ o : Obj, W.heap[r]? = some o ∧ o.isCells = false from (by cases (e : some D = some r); exact ⟨_, hK, rfl⟩)
    have hg := grownBy_putObj' W D (.deferred none)
    rw [HTE.out] at hb
    gi_wp2
    refine ⟨by simp, .inl ⟨_, _, rfl, run_takeDeferred hK, ?_⟩⟩
    refine ⟨_, res_cells3 rfl _ _ (T + 1) (T + 1 + 1) (T + 1 + 1 + 1) 84 3 4 (agW (s.extract x.1 s.size)) _ x.1 true rfl rfl rfl (blk_ownE b1 hg hw) (blk_ownE b2 hg hw) (blk_ownE b3 hg hw) Try.underlying84 rfl (by kernel_rfl) Try.underlying3 Try.underlying4, by rw [HE.out.1, HE.out.2.1, HE.out.2.2], ?_⟩
    exact hb.trans (belowK_b (w := w) (Nat.le_refl _) W D _ _ hD' hK rfl rfl)
end Go.Proofs.Ythmlfeaoaanmoaa
