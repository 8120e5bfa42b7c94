/- The walk of RunsOf. -/
import Derived.Test.YthmlfeaoaanmoaaLift
import Derived.Test.YthmlfeaoaanmoaaRunsLives
set_option linter.unusedVariables false
set_option linter.unusedSimpArgs false
namespace Sw
theorem ofGo_sym : ∀ (f : Nat) (l : List Int) (a : Int), goodB l = true → ∀ s ∈ ofGo f l a, 0 ≤ s.sym ∧ s.sym ≤ 18
  | 0, _, _, _, s, hs => by simp [ofGo] at hs
  | f + 1, l, a, hg, s, hs => by
    rw [ofGo] at hs
    split at hs
    · simp at hs
    · rename_i hl
      rcases List.mem_cons.1 hs with rfl | hs
      · have h0 := goodB_at hg 0 (by omega)
        have hh : l.headD 0 = l[0]'(by omega) := by
          match l, hl with
          | x :: _, _ => rfl
        unfold nextS stepS
        split
        · simp
        split
        · simp
        split
        · simp
        · simp only [hh]; omega
      · exact ofGo_sym f _ _ (goodB_drop hg _) s hs
theorem ofR_sym (l : List Int) : ∀ s ∈ ofR l, 0 ≤ s.sym ∧ s.sym ≤ 18 := by
  intro s hs
  unfold ofR at hs
  split at hs
  · rename_i h
    exact ofGo_sym _ _ _ h.1 s hs
  · simp at hs
theorem goodB_take_succ (l : List Int) (k : Nat) (h : k < l.length) : goodB (l.take (k + 1)) = (goodB (l.take k) && decide (0 ≤ l[k] ∧ l[k] ≤ 15)) := by
  rw [List.take_succ_eq_append_getElem h]
  unfold goodB
  rw [List.all_append, List.all_cons, List.all_nil, Bool.and_true]
end Sw
namespace Go.Proofs.Ythmlfeaoaanmoaa
open Go.RowKit
open Sw
open Go Go.ChangeShapes Go.WideShapes Go.ChangeAt
theorem info_int : Try.prog.info? 3 = some ((Try.prog.info? 3).getD default) := by kernel_rfl
theorem eq_cnt (L : List St) (W : World) : (binOp .eql 53 (.agg (cntA L)) (.agg (cntA L))).run Try.prog W = .ok (.bool true) W :=
  run_eql_ints (k := .i64) (n := 19) (i := _) Try.underlying53 info_int Try.underlying3 (by kernel_rfl) (by kernel_rfl) (countS L) (cntA L) (fun j hj => cntA_at L j hj) W
/-- the counts lie in their block -/
def CntAt (w : World) (L : List St) (W : World) : Prop := Blk W w.heap.size 53 (cntA L) ∧ Below w.heap.size w W
theorem CntAt.keep {w : World} {L : List St} {W W' : World} (h : CntAt w L W) (hb : Below W.heap.size W W') : CntAt w L W' := ⟨h.1.below hb h.1.lt, h.2.trans (hb.mono h.2.size)⟩
theorem bits19 (j : Nat) (h : j < 19) : (#[.int .i64 0, .int .i64 0, .int .i64 0, .int .i64 0, .int .i64 0, .int .i64 0, .int .i64 0, .int .i64 0, .int .i64 0, .int .i64 0, .int .i64 0, .int .i64 0, .int .i64 0, .int .i64 0, .int .i64 0, .int .i64 0, .int .i64 2, .int .i64 3, .int .i64 7] : Array Value)[j]? = some (.int .i64 (bitsI j)) := by
  have hk : j = 0 ∨ j = 1 ∨ j = 2 ∨ j = 3 ∨ j = 4 ∨ j = 5 ∨ j = 6 ∨ j = 7 ∨ j = 8 ∨ j = 9 ∨ j = 10 ∨ j = 11 ∨ j = 12 ∨ j = 13 ∨ j = 14 ∨ j = 15 ∨ j = 16 ∨ j = 17 ∨ j = 18 := by omega
  rcases hk with rfl | rfl | rfl | rfl | rfl | rfl | rfl | rfl | rfl | rfl | rfl | rfl | rfl | rfl | rfl | rfl | rfl | rfl | rfl <;> rfl
set_option maxRecDepth 100000 in
set_option maxHeartbeats 8000000 in
theorem runsOf_main (w : World) (A : Option Addr) (n c : Nat) (l : List Int) (sym : Int) (hl : l.length = n) (hnc : n ≤ c) (hc : c ≤ maxLen) (hsl : SlOf w 1 intE A l) :
    Calls Try.prog 7 #[.slice A n c, .int .i64 sym] w fun e w' => e = .returned (.bool true) ∧ Below w.heap.size w w' := by
  have hmm := hc
  unfold maxLen at hmm
  by_cases hbig : 450 < n
  · clear hsl hl
    go_enter Try.func7, Try.ntmps7
    go_wp2_with fail
    refine (runs_lives _).mono ?_
    rintro e w1 ⟨rfl, hb1⟩
    go_wp2_with fail
    go_ret
    exact ⟨rfl, hb1⟩
  have hO1 := of_sl w A n c l hl hnc hc hsl
  have hO2 := fun w1 (hb : Below w.heap.size w w1) => refOf_sl w1 A n c l hl hnc hc (hsl.below hb (Nat.le_refl _))
  have HS := Lib.hid hsl; clear hsl
  have HL := Lib.hid hl; clear hl
  have hnil : ¬ (goodB l = true ∧ n ≤ 400) → ofR l = [] := fun h => by unfold ofR; rw [if_neg (by rw [HL.out]; exact h)]
  have hsym := ofR_sym l
  have HO1 := Lib.hid hO1; clear hO1
  have HO2 := Lib.hid hO2; clear hO2
  have HNIL := Lib.hid hnil; clear hnil
  have HSYM := Lib.hid hsym; clear hsym
  obtain ⟨hz, hzi⟩ := zero_of_info info_cnt
  have HZI := Lib.hid hzi; clear hzi
  have H0 : cntA [] = cntA ((ofR l).take 0) := by simp
  have HC0 := Lib.hid H0; clear H0
  generalize cntA [] = v0 at *
  generalize ofR l = L at *
  go_enter Try.func7, Try.ntmps7
  go_wp2_with fail
  refine HO1.out.mono ?_
  rintro e w1 ⟨a, rfl, hsa, hb1⟩
  go_wp2_with fail
  refine (HO2.out _ hb1).mono ?_
  rintro e w2 ⟨b, rfl, hsb, hb2⟩
  have hbw2 := hb1.trans (hb2.mono hb1.size)
  have HSA := Lib.hid (hsa.below hb2 (Nat.le_refl _)); clear hsa
  have HSB := Lib.hid hsb; clear hsb
  have HSL2 := Lib.hid (HS.out.below hbw2 (Nat.le_refl _))
  clear HO1 HO2 hb1 hb2 HS
  go_wp2_with fail
  go_loop [7, 9, 26] (fun f _ t => ∃ k : Nat, k ≤ n ∧ t = .int .i64 k ∧ f = .bool (decide (n ≤ 400) && goodB (l.take k))) (fun _ _ t => n - (intOf t).toNat)
  case atStart => exact ⟨0, Nat.zero_le _, rfl, by simp [goodB]; omega⟩
  case round =>
    obtain ⟨k, hk, rfl, rfl⟩ := hrel
    by_cases hlt : k < n
    · have hkl : k < l.length := by have := HL.out; omega
      obtain ⟨bb, off, rfl, hbb, hcs⟩ := HSL2.out (by omega)
      have h0 := hcs k hkl 0 (by omega)
      simp [intE] at h0
      have hsucc := goodB_take_succ l k hkl
      have HSUCC := Lib.hid hsucc; clear hsucc hcs
      generalize l[k] = x at *
      cases hB : (decide (n ≤ 400) && goodB (l.take k)) with
      | false =>
        have hn : (decide (n ≤ 400) && goodB (l.take (k + 1))) = false := by rw [HSUCC.out, ← Bool.and_assoc, hB]; rfl
        have HN := Lib.hid hn; clear hn hB
        go_wp2_with fail
        exact ⟨⟨k + 1, by omega, by go_num, by rw [HN.out]⟩, by simp [intOf]; omega⟩
      | true =>
        have hn : (decide (n ≤ 400) && goodB (l.take (k + 1))) = decide (0 ≤ x ∧ x ≤ 15) := by rw [HSUCC.out, ← Bool.and_assoc, hB]; rfl
        have HN := Lib.hid hn; clear hn hB
        by_cases hx0 : 0 ≤ x
        · by_cases hx1 : x ≤ 15
          · have hd : decide (0 ≤ x ∧ x ≤ 15) = true := by simp; omega
            have HD := Lib.hid hd; clear hd
            go_wp2_with fail
            exact ⟨⟨k + 1, by omega, by go_num, by rw [HN.out, HD.out]⟩, by simp [intOf]; omega⟩
          · have hd : decide (0 ≤ x ∧ x ≤ 15) = false := by simp; omega
            have HD := Lib.hid hd; clear hd
            go_wp2_with fail
            exact ⟨⟨k + 1, by omega, by go_num, by rw [HN.out, HD.out]⟩, by simp [intOf]; omega⟩
        · have hd : decide (0 ≤ x ∧ x ≤ 15) = false := by simp; omega
          have HD := Lib.hid hd; clear hd
          go_wp2_with fail
          exact ⟨⟨k + 1, by omega, by go_num, by rw [HN.out, HD.out]⟩, by simp [intOf]; omega⟩
    · obtain rfl : k = n := by omega
      have ht : l.take k = l := List.take_of_length_le (by have := HL.out; omega)
      have HT := Lib.hid ht; clear ht
      generalize hB : (decide (k ≤ 400) && goodB (l.take k)) = fb at *
      rw [HT.out] at hB
      have HB := Lib.hid hB; clear hB
      clear hlt
      go_upto_if 41 with fail
      go_cut [6] from 40 to 41 (fun v wx => SlV wx 3 stC v L ∧ wx = w2)
      case first =>
        cases fb with
        | true =>
          have hg : goodB l = true := by have := HB.out; simp at this; exact this.2
          have hv := HSB.out hg
          go_wp2_with fail
          go_meet
          exact ⟨hv, rfl⟩
        | false =>
          have hv : L = [] := HNIL.out (by have := HB.out; simp at this; intro h; have := this h.2; rw [h.1] at this; cases this)
          go_wp2_with fail
          go_meet
          exact ⟨by rw [hv]; exact ⟨none, 0, rfl, by simp, by simp [maxLen], SlOf.nil _ _ _ _⟩, rfl⟩
      case rest =>
        obtain ⟨⟨A2, c2, rfl, hc2, hcm2, hs2⟩, rfl⟩ := hcut
        have hbw3 := hbw2
        clear hbw2
        generalize wc = w3 at *
        obtain ⟨A1, c1, rfl, hc1, hcm1, hs1⟩ := HSA.out
        have HS1 := Lib.hid hs1; clear hs1
        have HS2 := Lib.hid hs2; clear hs2
        unfold maxLen at hcm1 hcm2
        clear HSA HSB HSL2 HNIL HB HT HL
        have HB0 := Lib.hid (Blk.new w3 53 v0)
        obtain ⟨m, hm⟩ : ∃ m, m = L.length := ⟨_, rfl⟩
        rw [← hm] at hc1 hc2 ⊢
        have HM := Lib.hid hm; clear hm
        go_wp2_with fail
        clear hz
        go_loopw [4, 11, 44] (fun o _ t wr => ∃ k : Nat, k ≤ m ∧ t = .int .i64 k ∧ o = .bool false ∧ Blk wr w3.heap.size 53 (cntA (L.take k)) ∧ Below w3.heap.size w3 wr) (fun _ _ t _ => m - (intOf t).toNat)
        case atStart => exact ⟨0, Nat.zero_le _, rfl, rfl, by rw [← HC0.out]; exact HB0.out, (Below.refl _ _).alloc (Nat.le_refl _) _⟩
        case round =>
          obtain ⟨k, hk, rfl, rfl, hB, hbw⟩ := hrel
          by_cases hlt : k < m
          · have hkl : k < L.length := by have := HM.out; omega
            obtain ⟨b1, o1, rfl, hbb1, hcs1⟩ := HS1.out (by omega)
            obtain ⟨b2, o2, rfl, hbb2, hcs2⟩ := HS2.out (by omega)
            have h0 := hcs1 k hkl 0 (by omega)
            have h1 := hcs1 k hkl 1 (by omega)
            have h2 := hcs1 k hkl 2 (by omega)
            have h3 := hcs2 k hkl 0 (by omega)
            have h4 := hcs2 k hkl 1 (by omega)
            have h5 := hcs2 k hkl 2 (by omega)
            rw [← hbw.cell (p := ⟨b1, _, none⟩) hbb1] at h0 h1 h2
            rw [← hbw.cell (p := ⟨b2, _, none⟩) hbb2] at h3 h4 h5
            simp [stC] at h0 h1 h2 h3 h4 h5
            have htk : L.take (k + 1) = L.take k ++ [L[k]] := List.take_succ_eq_append_getElem hkl
            have HTK := Lib.hid htk; clear htk hcs1 hcs2
            have hsy := HSYM.out L[k] (List.getElem_mem hkl)
            obtain ⟨j, hj⟩ : ∃ j : Nat, L[k].sym = (j : Int) := ⟨L[k].sym.toNat, by omega⟩
            have hj19 : j < 19 := by omega
            have hput := cntA_put (L.take k) L[k] j hj19 hj
            rw [← HTK.out] at hput
            have hc := hB.cell j
            have hf := hB.frozen j
            rw [cntA_at _ j hj19] at hc
            have hcb := countS_le (L.take k) j
            have hlen : (L.take k).length ≤ k := List.length_take_le _ _
            have HPUT := Lib.hid hput; clear hput
            rw [hj] at h0 h3
            have HBB := Lib.hid hB; clear hB
            clear hsy hj
            generalize L[k].bits = sb at *
            generalize L[k].more = sc at *
            generalize countS (L.take k) j = q at *
            have hge : decide ((m : Int) ≤ k) = false := by simp; omega
            have hk1 : (k : Int) < m := by omega
            have hk0 : (0 : Int) ≤ k := by omega
            go_wp2_with fail
            go_quiet (fail)
            go_wp2_with fail
            go_roundw
            case rel =>
              exact ⟨k + 1, by omega, by go_num, rfl, by rw [← HPUT.out]; exact (HBB.out.drewN nq).put j _, (below_drewN hbw nq).setCell (Nat.le_refl _) _⟩
            case measure => simp [intOf]; omega
          · obtain rfl : k = m := by omega
            have ht : L.take k = L := List.take_of_length_le (by have := HM.out; omega)
            rw [ht] at hB
            have HBB := Lib.hid hB; clear hB ht hlt
            go_upto_region 21 with fail
            go_cut [77] from 72 to 77 (fun v wx => v = .bool (decide (0 ≤ sym ∧ sym ≤ 18)) ∧ wx = wr)
            case first =>
              by_cases hs0 : 0 ≤ sym
              · by_cases hs1 : sym ≤ 18
                · have HD := Lib.hid (show decide (0 ≤ sym ∧ sym ≤ 18) = true by simp; omega)
                  go_wp2_with fail
                  go_meet
                  exact ⟨by rw [HD.out], rfl⟩
                · have HD := Lib.hid (show decide (0 ≤ sym ∧ sym ≤ 18) = false by simp; omega)
                  go_wp2_with fail
                  go_meet
                  exact ⟨by rw [HD.out], rfl⟩
              · have HD := Lib.hid (show decide (0 ≤ sym ∧ sym ≤ 18) = false by simp; omega)
                go_wp2_with fail
                go_meet
                exact ⟨by rw [HD.out], rfl⟩
            case rest =>
            obtain ⟨rfl, hwc⟩ := hcut
            subst hwc
            generalize wc = wr at *
            generalize hin : decide (0 ≤ sym ∧ sym ≤ 18) = ib at *
            have HIN := Lib.hid hin; clear hin
            go_upto_if 77 with fail
            go_cut [12] from 72 to 81 (fun v wx => v = .int .i64 (bitsI sym) ∧ Blk wx w3.heap.size 53 (cntA L) ∧ Below w3.heap.size w3 wx)
            case first =>
              cases ib with
              | false =>
                have hbi : bitsI sym = -1 := by
                  have := HIN.out
                  unfold bitsI; rw [if_pos]; simp at this; omega
                have HBI := Lib.hid hbi; clear hbi
                go_wp2_with fail
                go_meet
                exact ⟨by rw [HBI.out], HBB.out, hbw⟩
              | true =>
                have hsr : 0 ≤ sym ∧ sym ≤ 18 := by have := HIN.out; simp at this; exact this
                obtain ⟨j, rfl⟩ := Int.eq_ofNat_of_zero_le (show 0 ≤ sym by omega)
                have hj19 : j < 19 := by omega
                have hbj := bits19 j hj19
                have hcj := (Blk.new wr 3 #[.int .i64 0, .int .i64 0, .int .i64 0, .int .i64 0, .int .i64 0, .int .i64 0, .int .i64 0, .int .i64 0, .int .i64 0, .int .i64 0, .int .i64 0, .int .i64 0, .int .i64 0, .int .i64 0, .int .i64 0, .int .i64 0, .int .i64 2, .int .i64 3, .int .i64 7]).cell j
                rw [hbj] at hcj
                generalize bitsI (j : Int) = bj at *
                clear hsr
                go_wp2_with fail
                go_meet
                exact ⟨rfl, HBB.out.alloc _, hbw.alloc hbw.size _⟩
            case rest =>
              obtain ⟨rfl, hB2, hbw2⟩ := hcut
              have hS0 : CntAt w3 L wc.drew := ⟨hB2, hbw2.drew⟩
              haveI : Nonempty (Held (CntAt w3 L)) := held_some hS0
              have hC : ∀ n : Held (CntAt w3 L), Calls Try.prog 33 #[.slice A1 k c1] (HeldW n) fun e w' => e = .returned (.agg (cntA L)) ∧ Below (HeldW n).heap.size (HeldW n) w' := fun n => count_any (HeldW n) A1 k c1 L HM.out.symm (by unfold maxLen; omega) (HS1.out.below (HeldW_spec n).2 (Nat.le_refl _))
              have HC := Lib.hid hC; clear hC
              have hEQ := fun W : World => eq_cnt L W
              have hHG : ∀ W, (∃ n : Held (CntAt w3 L), W = HeldW n) → W.heap[w3.heap.size]? = some (.cells (cntA L) 53 (0, 0)) := by
                rintro W ⟨n, rfl⟩
                exact (HeldW_spec n).1
              have HHG := Lib.hid hHG; clear hHG
              have hi : (Try.prog.info? 53).map (·.size) = some (cntA L).size := by rw [cntA_size]; exact HZI.out
              have HI := Lib.hid hi; clear hi
              have HS0 := Lib.hid hS0; clear hS0 hB2
              clear HS1 HS2 HBB HC0 HSYM
              go_wp2_with fail
              refine wp_region_class (CntAt w3 L) (by kernel_rfl) (by kernel_rfl) HS0.out ?_
              repeat (first
                | (go_big_quiet_want; refine quiet_load_row 53 _ rfl w3.heap.size (by simp [Act.eval, Act.put]) 53 (cntA L) (0, 0) _ HHG.out Try.underlying53 rfl HI.out ?_; go_simp; go_big_quiet_on)
                | go_big_quiet_step (first | with_reducible exact held_below (fun _ _ => CntAt.keep) (HC.out _) | with_reducible exact held_same (bits_any _ _) | with_reducible exact held_below (fun _ _ => CntAt.keep) (runs_lives _)))
              refine wpQuiet_nil ?_
              rintro _ ⟨nn, rfl⟩
              go_wp2_with fail
              go_ret
              exact ⟨rfl, hbw3.trans ((HeldW_spec nn).2.mono hbw3.size)⟩
theorem dec_ints {H : Type} {enc : TypeId × Value → H} {w : World} (fuel : Nat) (cs : List Value) (x : DataW H × List MemPlace) (h : DataW.trod enc Try.prog w 0 (fun _ => true) true fuel 3 cs = some x) :
    ∃ k : Int, cs = intE k ∧ (-9223372036854775808 ≤ k ∧ k ≤ 9223372036854775807) := by
  obtain ⟨k, ek, _, wk⟩ := DataW.trod_int Try.underlying3 h
  exact ⟨k, ek, bounds_i64 wk⟩
set_option maxRecDepth 100000 in
theorem runsOf_walk : Walks 7 Try.f7 := by
  intro H enc W base args ds ps hval hA hlt hsz
  rw [Try.params7] at hA hval
  obtain ⟨v0, v1, d0, d1, p0, p1, rfl, rfl, rfl, h0, h1⟩ := trodAll_two hA
  obtain ⟨A, n, c, l, rfl, hnc, hcm, hl, hsl, hv, _⟩ := open_slice_dec (size := 1) intE (fun k => -9223372036854775808 ≤ k ∧ k ≤ 9223372036854775807) Try.underlying48 (by kernel_rfl) (by omega) dec_ints (hval 0 48 v0 rfl rfl) h0
  obtain ⟨k, rfl, rfl, rfl, wk⟩ := open_int Try.underlying3 (hval 1 3 v1 rfl rfl) h1
  exact runsOf_main W A n c l k hl hnc hcm hsl
end Go.Proofs.Ythmlfeaoaanmoaa
