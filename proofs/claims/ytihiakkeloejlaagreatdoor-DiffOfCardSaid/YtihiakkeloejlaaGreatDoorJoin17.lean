/- Several texts, joined for the limit of sixty files; each one opens with its own comment. -/
import Derived.Test.YtihiakkeloejlaaGreatDoorJoin16
import Derived.Test.YtihiakkeloejlaaGreatDoorJoin10
import Derived.Test.YtihiakkeloejlaaGreatDoorJoin13
import Derived.Test.YtihiakkeloejlaaGreatDoorJoin14
import Derived.StillTailTactics
import Derived.Test.YtihiakkeloejlaaGreatDoorJoin15
import Derived.Test.YtihiakkeloejlaaGreatDoorJoin8
import Derived.Test.YtihiakkeloejlaaGreatDoorChecked
import Derived.Test.YtihiakkeloejlaaGreatDoorJoin5
import Derived.RegionTactic
import Derived.BigRegion
/- The reference's Right of nodes (at a node that is one). -/
set_option linter.unusedVariables false
set_option linter.unusedSimpArgs false
namespace Go.Proofs.YtihiakkeloejlaaGreatDoor
open Go Go.RowKit
open Sw
theorem refTime_any (w : World) (t : Int) (h0 : 0 ≤ t) (h1 : t < 4294967296) :
    Calls Tryz.prog 114 #[.int .u32 t] w fun e w' => e = .returned (.bool (decide (splitD t).Ok)) ∧ Below w.heap.size w w' := by
  have H1 := Lib.hid (refDosSplit_any w t h0 h1)
  have H2 := Lib.hid (fun W => refDosRight_any W (splitD t) (splitD_in t h0 h1))
  go_enter Tryz.func114, Tryz.ntmps114
  go_wp2_with fail
  refine H1.out.mono ?_
  rintro _ w1 ⟨rfl, hb1⟩
  have HB1 := Lib.hid hb1; clear hb1
  go_wp2_with fail
  refine (H2.out _).mono ?_
  rintro _ w2 ⟨rfl, hb2⟩
  have HB2 := Lib.hid (HB1.out.trans (hb2.mono HB1.out.size)); clear hb2
  go_wp2_with fail
  go_ret
  exact ⟨rfl, HB2.out⟩
set_option maxRecDepth 100000 in
set_option maxHeartbeats 4000000 in
theorem ref14Right_any (w : World) (n : Nd) (hk : ¬ n.kind = 0) (ht0 : 0 ≤ n.time) (ht1 : n.time < 4294967296) (hd : n.data.size ≤ maxLen) :
    Calls Tryz.prog 90 #[.agg n.c] w fun e w' => e = .returned (.int .i64 (nodeR n)) ∧ Below w.heap.size w w' := by
  obtain ⟨kd, md, tm, dt⟩ := n
  simp only at hk ht0 ht1 hd
  unfold maxLen at hd
  have hb0 := (Below.refl w.heap.size w).alloc (Nat.le_refl _) (.cells #[.int .i64 kd, .int .i64 md, .int .u32 tm, .string dt] 54)
  have hB0 := Blk.new w 54 #[.int .i64 kd, .int .i64 md, .int .u32 tm, .string dt]
  have H0 := Lib.hid (And.intro hb0 hB0); clear hb0 hB0
  have e0 : (kd == 0) = false := by rw [beq_eq_false_iff_ne]; exact hk
  unfold Nd.c
  have hR : nodeR ⟨kd, md, tm, dt⟩ = if ¬ kd = 1 ∧ ¬ kd = 2 then 8 else if kd = 2 ∧ (¬ dt.data.toList = [] ∨ ¬ tm = 0) then 1 else if ¬ (0 ≤ md ∧ md ≤ 511) then 12 else if kd = 1 ∧ ¬ (splitD tm).Ok then 13 else if (65000 : Int) < dt.size then 4 else 0 := by
    unfold nodeR
    simp [hk]
  rw [hR]
  clear hR
  by_cases h1 : kd = 1
  · subst h1
    rw [if_neg (by omega), if_neg (by omega)]
    have HD := Lib.hid (fun W => refTime_any W tm ht0 ht1)
    by_cases hm0 : 0 ≤ md
    · by_cases hm1 : md ≤ 511
      · rw [if_neg (fun h => h ⟨hm0, hm1⟩)]
        by_cases hk2 : (splitD tm).Ok
        · rw [decide_eq_true hk2] at HD
          rw [if_neg (fun h => h.2 hk2)]
          clear hk hk2
          by_cases hs : (65000 : Int) < dt.size
          all_goals
            first | rw [if_pos hs] | rw [if_neg hs]
            go_enter Tryz.func90, Tryz.ntmps90
            go_wp2_with fail
            refine (HD.out _).mono ?_
            rintro e w2 ⟨rfl, hb2⟩
            have x3 := (H0.out.2.below hb2 H0.out.2.lt).cell 3
            simp at x3
            have HF := Lib.hid (H0.out.1.trans (hb2.mono H0.out.1.size)); clear hb2
            go_wp2_with fail
            go_ret
            exact ⟨rfl, HF.out⟩
        · rw [decide_eq_false hk2] at HD
          rw [if_pos ⟨rfl, hk2⟩]
          clear hk hk2
          go_enter Tryz.func90, Tryz.ntmps90
          go_wp2_with fail
          refine (HD.out _).mono ?_
          rintro e w2 ⟨rfl, hb2⟩
          have HF := Lib.hid (H0.out.1.trans (hb2.mono H0.out.1.size)); clear hb2
          go_wp2_with fail
          go_ret
          exact ⟨rfl, HF.out⟩
      · rw [if_pos (fun h => hm1 h.2)]
        go_enter Tryz.func90, Tryz.ntmps90
        go_wp2_with fail
        go_ret
        exact ⟨rfl, H0.out.1⟩
    · rw [if_pos (fun h => hm0 h.1)]
      go_enter Tryz.func90, Tryz.ntmps90
      go_wp2_with fail
      go_ret
      exact ⟨rfl, H0.out.1⟩
  · have e1 : (kd == 1) = false := by rw [beq_eq_false_iff_ne]; exact h1
    by_cases h2 : kd = 2
    · subst h2
      rw [if_neg (by omega)]
      by_cases hx : dt.data.toList = []
      · by_cases hy : tm = 0
        · subst hy
          rw [if_neg (by rintro ⟨_, h⟩; rcases h with h | h <;> simp_all)]
          have hdz : dt = ⟨#[]⟩ := by cases dt with | mk d => cases d with | mk l => simp at hx; subst hx; rfl
          subst hdz
          clear hk h1 e1 hx
          by_cases hm0 : 0 ≤ md
          · by_cases hm1 : md ≤ 511
            · rw [if_neg (fun h => h ⟨hm0, hm1⟩)]
              rw [if_neg (by omega), if_neg (by decide)]
              go_enter Tryz.func90, Tryz.ntmps90
              go_wp2_with fail
              go_ret
              exact ⟨rfl, H0.out.1⟩
            · rw [if_pos (fun h => hm1 h.2)]
              go_enter Tryz.func90, Tryz.ntmps90
              go_wp2_with fail
              go_ret
              exact ⟨rfl, H0.out.1⟩
          · rw [if_pos (fun h => hm0 h.1)]
            go_enter Tryz.func90, Tryz.ntmps90
            go_wp2_with fail
            go_ret
            exact ⟨rfl, H0.out.1⟩
        · rw [if_pos ⟨rfl, .inr hy⟩]
          have hdz : dt = ⟨#[]⟩ := by cases dt with | mk d => cases d with | mk l => simp at hx; subst hx; rfl
          subst hdz
          have t0 : (tm == 0) = false := by rw [beq_eq_false_iff_ne]; exact hy
          have t1 : (tm != 0) = true := by rw [bne_iff_ne]; exact hy
          clear hk h1 e1 hx hy
          go_enter Tryz.func90, Tryz.ntmps90
          go_wp2_with fail
          go_ret
          exact ⟨rfl, H0.out.1⟩
      · rw [if_pos ⟨rfl, .inl hx⟩]
        have s0 : dt.data.toList.isEmpty = false := by cases hl : dt.data.toList with | nil => exact absurd hl hx | cons a l => rfl
        have s1 : (!dt.data.toList.isEmpty) = true := by rw [s0]; rfl
        have s2 : (dt.data.toList == []) = false := by rw [beq_eq_false_iff_ne]; exact hx
        have s3 : dt.toList.isEmpty = false := by rw [ByteArray.toList_eq]; exact s0
        clear hk h1 e1 hx
        go_enter Tryz.func90, Tryz.ntmps90
        go_wp2_with fail
        go_ret
        exact ⟨rfl, H0.out.1⟩
    · rw [if_pos ⟨h1, h2⟩]
      have e2 : (kd == 2) = false := by rw [beq_eq_false_iff_ne]; exact h2
      by_cases hn : kd < 0
      · clear hk h1 h2 e0 e1 e2
        go_enter Tryz.func90, Tryz.ntmps90
        go_wp2_with fail
        go_ret
        exact ⟨rfl, H0.out.1⟩
      · have hn2 : (2 : Int) < kd := by omega
        clear hk h1 h2 e0 e1 e2
        go_enter Tryz.func90, Tryz.ntmps90
        go_wp2_with fail
        go_ret
        exact ⟨rfl, H0.out.1⟩
end Go.Proofs.YtihiakkeloejlaaGreatDoor
/- The reference's rows of items: Put. -/
set_option linter.unusedVariables false
set_option linter.unusedSimpArgs false
namespace Go.Proofs.YtihiakkeloejlaaGreatDoor
open Go Go.RowKit
open Sw
set_option maxRecDepth 100000 in
set_option maxHeartbeats 8000000 in
theorem ref16Put_any (w : World) (B : Nat) (v : Value) (l : List NE) (p : ByteArray) (n : Nd) (h : OwnIt w B v l) (hB : B ≤ w.heap.size) (hu : Up ordS l) (hpt : Paths l) (hl : l.length ≤ 1000) (hok : ∀ e ∈ l, e.1.size ≤ 90000) (hp : p.size ≤ 90000) (ht0 : 0 ≤ n.time) (ht1 : n.time < 4294967296) (hd : n.data.size ≤ maxLen) :
    Calls Tryz.prog 65 #[v, .string p, .agg n.c] w fun e w' => ∃ r, e = .returned (.tuple #[r, .int .i64 (mayT l p n)]) ∧ OwnIt w' B r (putT l p n) ∧ Below w.heap.size w w' := by
  have HPR := Lib.hid (fun W => refRight_any W p (by omega))
  have HUP := Lib.hid (fun W => refUps_any W p hp)
  have HND := Lib.hid (fun W (hk : ¬ n.kind = 0) => ref14Right_any W n hk ht0 ht1 hd)
  have HG := Lib.hid (fun W q (hb : Below w.heap.size w W) => (show Calls Tryz.prog 35 #[v, .string q] W fun e w' => e = .returned (.agg (getT l q).c) ∧ Below W.heap.size W w' from by
    rw [← refGetT_eq l q hu]; exact ref16Get_any W v l q (h.below hb).slv))
  have HH := Lib.hid (fun W (hb : Below w.heap.size w W) => (show Calls Tryz.prog 92 #[v, .string p] W fun e w' => e = .returned (.bool (holdsT l p)) ∧ Below W.heap.size W w' from by
    rw [holds_any l p hu hpt]; exact ref16Holds_any W v l p (h.below hb).slv hok))
  have HS := Lib.hid (fun W (hb : Below w.heap.size w W) => (show Calls Tryz.prog 93 #[v, .string p, .agg n.c] W fun e w' => ∃ r, e = .returned r ∧ OwnIt w' W.heap.size r (putN ordS p n l) ∧ Below W.heap.size W w' from by
    rw [← setG_eq ordS_ord p n l hu]; exact ref16Set_any W v l p n (h.below hb).slv hl hp hok))
  obtain ⟨A0, c0, rfl, hAc, hAm, -⟩ := SlV_of_any h
  have HO := Lib.hid (And.intro h hB); clear h hB
  have HPL := Lib.hid (parent_last p)
  obtain ⟨N, hN⟩ : ∃ N, l.length = N := ⟨_, rfl⟩
  rw [hN] at HG HH HS HO hAc hl ⊢
  have hM : mayT l p n = if rightL p.data.toList = false then 5 else if n.kind = 0 then 1 else if ¬ nodeR n = 0 then nodeR n else if ¬ parentT l p = 0 then parentT l p else if ¬ n.kind = 2 ∧ holdsT l p = true then 8 else if (getT l p).kind = 0 ∧ 500 ≤ N then 4 else 0 := by unfold mayT; rw [hN]
  have hPT : putT l p n = if mayT l p n = 0 then putN ordS p n l else l := rfl
  generalize mayT l p n = M at hM hPT ⊢
  generalize putT l p n = PT at hPT ⊢
  have HN := Lib.hid hN; clear hN
  have HB0 := Lib.hid (((Below.refl w.heap.size w).alloc (Nat.le_refl _) (.cells n.c 54)))
  have HX := Lib.hid (Blk.new w 54 n.c)
  have hpar : parentT l p = if parentS p = ⟨#[]⟩ then 0 else if (getT l (parentS p)).kind = 0 then 7 else if (getT l (parentS p)).kind = 2 then 0 else 8 := rfl
  generalize hPP : parentT l p = PP at hM hpar; clear hPP
  generalize hRR : nodeR n = RR at hM HND; clear hRR
  generalize hGG : getT l p = GG at hM
  have HGP := Lib.hid (fun W (hb : Below w.heap.size w W) => by have := HG.out W p hb; rw [hGG] at this; exact this)
  clear hGG
  obtain ⟨gk, gm, gt, gd⟩ := GG
  obtain ⟨kd, md, tm, dt⟩ := n
  simp only [Nd.c] at HND HS HB0 HX hM HGP ⊢
  unfold maxLen at hAm
  have hfld := nodeField0
  clear ht0 ht1 hd
  by_cases hr : rightL p.data.toList = true
  · rw [if_neg (by rw [hr]; decide)] at hM
    rw [hr] at HPR
    by_cases hkd : kd = 0
    · rw [if_pos hkd] at hM
      have k0 : (kd == 0) = true := by rw [beq_iff_eq]; exact hkd
      clear hkd
      go_enter Tryz.func65, Tryz.ntmps65
      go_wp2_with fail
      refine (HPR.out _).mono ?_
      rintro _ w1 ⟨rfl, hb9⟩
      have HB1 := Lib.hid (HB0.out.trans (hb9.mono HB0.out.size))
      have HX1 := Lib.hid (HX.out.below hb9 HX.out.lt); clear hb9
      have e0 := HX1.out.cell 0
      have e1 := HX1.out.cell 1
      have e2 := HX1.out.cell 2
      have e3 := HX1.out.cell 3
      simp at e0 e1 e2 e3
      subst hM
      rw [if_neg (by first | decide | assumption)] at hPT
      subst hPT
      go_wp2_with fail
      go_ret2
      exact ⟨_, rfl, HO.out.1.below HB1.out, HB1.out⟩
    · rw [if_neg hkd] at hM
      have k0 : (kd == 0) = false := by rw [beq_eq_false_iff_ne]; exact hkd
      have HK0 := Lib.hid hkd; clear hkd
      go_enter Tryz.func65, Tryz.ntmps65
      go_wp2_with fail
      refine (HPR.out _).mono ?_
      rintro _ w1 ⟨rfl, hb9⟩
      have HB1 := Lib.hid (HB0.out.trans (hb9.mono HB0.out.size))
      have HX1 := Lib.hid (HX.out.below hb9 HX.out.lt); clear hb9
      have e0 := HX1.out.cell 0
      have e1 := HX1.out.cell 1
      have e2 := HX1.out.cell 2
      have e3 := HX1.out.cell 3
      simp at e0 e1 e2 e3
      go_wp2_with fail
      refine (HND.out _ HK0.out).mono ?_
      rintro _ w2 ⟨rfl, hb9⟩
      have HB2 := Lib.hid (HB1.out.trans (hb9.mono HB1.out.size))
      have HX2 := Lib.hid (HX1.out.below hb9 HX1.out.lt); clear hb9
      have e0 := HX2.out.cell 0
      have e1 := HX2.out.cell 1
      have e2 := HX2.out.cell 2
      have e3 := HX2.out.cell 3
      simp at e0 e1 e2 e3
      by_cases hrr : RR = 0
      · rw [if_neg (fun h => h hrr)] at hM
        have r0 : (RR == 0) = true := by rw [beq_iff_eq]; exact hrr
        have r0' : (RR != 0) = false := by rw [bne_eq_false_iff_eq]; exact hrr
        clear hrr
        go_wp2_with fail
        refine (HUP.out _).mono ?_
        rintro _ w3 ⟨uv, rfl, us, hb9⟩
        have HB3 := Lib.hid (HB2.out.trans (hb9.mono HB2.out.size))
        have HX3 := Lib.hid (HX2.out.below hb9 HX2.out.lt); clear hb9
        have e0 := HX3.out.cell 0
        have e1 := HX3.out.cell 1
        have e2 := HX3.out.cell 2
        have e3 := HX3.out.cell 3
        simp at e0 e1 e2 e3
        obtain ⟨A, c, rfl, hc1, hc2, hsl⟩ := us
        obtain ⟨U, hU⟩ : ∃ U, upsS p = U := ⟨_, rfl⟩
        rw [hU] at hc1 hsl HPL
        rw [hU]
        clear hU
        unfold maxLen at hc2
        have HSL := Lib.hid hsl; clear hsl
        rcases HPL.out with ⟨rfl, hps⟩ | ⟨hne, hla, hps⟩
        · rw [if_pos hps] at hpar
          subst hpar
          rw [if_neg (by decide)] at hM
          simp only [List.length_nil] at hc1 ⊢
          by_cases hk2 : kd = 2
          · have k2 : (kd == 2) = true := by rw [beq_iff_eq]; exact hk2
            have k2' : (kd != 2) = false := by rw [bne_eq_false_iff_eq]; exact hk2
            rw [if_neg (fun h => h.1 hk2)] at hM
            clear hk2
            go_wp2_with fail
            refine (HGP.out _ HB3.out).mono ?_
            rintro _ w4 ⟨rfl, hb9⟩
            have HB4 := Lib.hid (HB3.out.trans (hb9.mono HB3.out.size))
            have HX4 := Lib.hid (HX3.out.below hb9 HX3.out.lt); clear hb9
            have e0 := HX4.out.cell 0
            have e1 := HX4.out.cell 1
            have e2 := HX4.out.cell 2
            have e3 := HX4.out.cell 3
            simp at e0 e1 e2 e3
            by_cases hgk : gk = 0
            · have g0 : (gk == 0) = true := by rw [beq_iff_eq]; exact hgk
              by_cases hN5 : 500 ≤ N
              · rw [if_pos ⟨hgk, hN5⟩] at hM
                clear hgk
                subst hM
                rw [if_neg (by first | decide | assumption)] at hPT
                subst hPT
                go_wp2_with fail
                go_ret2
                exact ⟨_, rfl, HO.out.1.below HB4.out, HB4.out⟩
              · rw [if_neg (fun h => hN5 h.2)] at hM
                clear hgk
                subst hM
                rw [if_pos rfl] at hPT
                subst hPT
                go_wp2_with fail
                refine (HS.out _ HB4.out).mono ?_
                rintro _ w5 ⟨r, rfl, hr9, hb9⟩
                have HF := Lib.hid (And.intro hr9 hb9); clear hr9 hb9
                go_wp2_with fail
                go_ret2
                exact ⟨_, rfl, own_wide HF.out.1 (Nat.le_trans HO.out.2 HB4.out.size), HB4.out.trans (HF.out.2.mono HB4.out.size)⟩
            · have g0 : (gk == 0) = false := by rw [beq_eq_false_iff_ne]; exact hgk
              rw [if_neg (fun h => hgk h.1)] at hM
              clear hgk
              subst hM
              rw [if_pos rfl] at hPT
              subst hPT
              go_wp2_with fail
              refine (HS.out _ HB4.out).mono ?_
              rintro _ w5 ⟨r, rfl, hr9, hb9⟩
              have HF := Lib.hid (And.intro hr9 hb9); clear hr9 hb9
              go_wp2_with fail
              go_ret2
              exact ⟨_, rfl, own_wide HF.out.1 (Nat.le_trans HO.out.2 HB4.out.size), HB4.out.trans (HF.out.2.mono HB4.out.size)⟩
          · have k2 : (kd == 2) = false := by rw [beq_eq_false_iff_ne]; exact hk2
            have k2' : (kd != 2) = true := by rw [bne_iff_ne]; exact hk2
            by_cases hh : holdsT l p = true
            · rw [if_pos ⟨hk2, hh⟩] at hM
              rw [hh] at HH
              clear hk2
              go_wp2_with fail
              refine (HH.out _ HB3.out).mono ?_
              rintro _ w4 ⟨rfl, hb9⟩
              have HB4 := Lib.hid (HB3.out.trans (hb9.mono HB3.out.size))
              have HX4 := Lib.hid (HX3.out.below hb9 HX3.out.lt); clear hb9
              have e0 := HX4.out.cell 0
              have e1 := HX4.out.cell 1
              have e2 := HX4.out.cell 2
              have e3 := HX4.out.cell 3
              simp at e0 e1 e2 e3
              subst hM
              rw [if_neg (by first | decide | assumption)] at hPT
              subst hPT
              go_wp2_with fail
              go_ret2
              exact ⟨_, rfl, HO.out.1.below HB4.out, HB4.out⟩
            · rw [if_neg (fun h => hh h.2)] at hM
              rw [Bool.not_eq_true] at hh
              rw [hh] at HH
              clear hk2
              go_wp2_with fail
              refine (HH.out _ HB3.out).mono ?_
              rintro _ w4 ⟨rfl, hb9⟩
              have HB4 := Lib.hid (HB3.out.trans (hb9.mono HB3.out.size))
              have HX4 := Lib.hid (HX3.out.below hb9 HX3.out.lt); clear hb9
              have e0 := HX4.out.cell 0
              have e1 := HX4.out.cell 1
              have e2 := HX4.out.cell 2
              have e3 := HX4.out.cell 3
              simp at e0 e1 e2 e3
              go_wp2_with fail
              refine (HGP.out _ HB4.out).mono ?_
              rintro _ w5 ⟨rfl, hb9⟩
              have HB5 := Lib.hid (HB4.out.trans (hb9.mono HB4.out.size))
              have HX5 := Lib.hid (HX4.out.below hb9 HX4.out.lt); clear hb9
              have e0 := HX5.out.cell 0
              have e1 := HX5.out.cell 1
              have e2 := HX5.out.cell 2
              have e3 := HX5.out.cell 3
              simp at e0 e1 e2 e3
              by_cases hgk : gk = 0
              · have g0 : (gk == 0) = true := by rw [beq_iff_eq]; exact hgk
                by_cases hN5 : 500 ≤ N
                · rw [if_pos ⟨hgk, hN5⟩] at hM
                  clear hgk
                  subst hM
                  rw [if_neg (by first | decide | assumption)] at hPT
                  subst hPT
                  go_wp2_with fail
                  go_ret2
                  exact ⟨_, rfl, HO.out.1.below HB5.out, HB5.out⟩
                · rw [if_neg (fun h => hN5 h.2)] at hM
                  clear hgk
                  subst hM
                  rw [if_pos rfl] at hPT
                  subst hPT
                  go_wp2_with fail
                  refine (HS.out _ HB5.out).mono ?_
                  rintro _ w6 ⟨r, rfl, hr9, hb9⟩
                  have HF := Lib.hid (And.intro hr9 hb9); clear hr9 hb9
                  go_wp2_with fail
                  go_ret2
                  exact ⟨_, rfl, own_wide HF.out.1 (Nat.le_trans HO.out.2 HB5.out.size), HB5.out.trans (HF.out.2.mono HB5.out.size)⟩
              · have g0 : (gk == 0) = false := by rw [beq_eq_false_iff_ne]; exact hgk
                rw [if_neg (fun h => hgk h.1)] at hM
                clear hgk
                subst hM
                rw [if_pos rfl] at hPT
                subst hPT
                go_wp2_with fail
                refine (HS.out _ HB5.out).mono ?_
                rintro _ w6 ⟨r, rfl, hr9, hb9⟩
                have HF := Lib.hid (And.intro hr9 hb9); clear hr9 hb9
                go_wp2_with fail
                go_ret2
                exact ⟨_, rfl, own_wide HF.out.1 (Nat.le_trans HO.out.2 HB5.out.size), HB5.out.trans (HF.out.2.mono HB5.out.size)⟩
        · rw [if_neg hps] at hpar
          obtain ⟨m, hm⟩ : ∃ m, U.length = m + 1 := ⟨U.length - 1, by have := List.length_pos_iff.2 hne; omega⟩
          obtain ⟨b, off, rfl, hbb, hcs⟩ := HSL.out (by omega)
          have u0 := hcs m (by omega) 0 (by omega)
          have hum : U[m]'(by omega) = parentS p := by rw [← hla, List.getLast_eq_getElem]; congr 1; omega
          rw [hum] at u0
          simp [bE] at u0
          clear hcs
          rw [hm] at hc1 ⊢
          clear hum hla hne
          have hm1 : (((m + 1 : Nat) : Int)) - 1 = (m : Int) := by omega
          generalize hPG : getT l (parentS p) = PG at hpar
          have HPG := Lib.hid (fun W (hb : Below w.heap.size w W) => by have := HG.out W (parentS p) hb; rw [hPG] at this; exact this)
          clear hPG
          obtain ⟨pk, pm, pt, pd⟩ := PG
          simp only [Nd.c] at HPG hpar
          go_wp2_with fail
          refine (HPG.out _ HB3.out).mono ?_
          rintro _ w4 ⟨rfl, hb9⟩
          have HB4 := Lib.hid (HB3.out.trans (hb9.mono HB3.out.size))
          have HX4 := Lib.hid (HX3.out.below hb9 HX3.out.lt); clear hb9
          have e0 := HX4.out.cell 0
          have e1 := HX4.out.cell 1
          have e2 := HX4.out.cell 2
          have e3 := HX4.out.cell 3
          simp at e0 e1 e2 e3
          by_cases p0 : pk = 0
          · rw [if_pos p0] at hpar
            subst hpar
            rw [if_pos (by decide)] at hM
            have q0 : (pk == 0) = true := by rw [beq_iff_eq]; exact p0
            clear p0
            subst hM
            rw [if_neg (by first | decide | assumption)] at hPT
            subst hPT
            go_wp2_with fail
            go_ret2
            exact ⟨_, rfl, HO.out.1.below HB4.out, HB4.out⟩
          · rw [if_neg p0] at hpar
            have q0 : (pk == 0) = false := by rw [beq_eq_false_iff_ne]; exact p0
            clear p0
            by_cases p2 : pk = 2
            · rw [if_pos p2] at hpar
              subst hpar
              rw [if_neg (by decide)] at hM
              have q2 : (pk == 2) = true := by rw [beq_iff_eq]; exact p2
              have q2' : (pk != 2) = false := by rw [bne_eq_false_iff_eq]; exact p2
              clear p2
              by_cases hk2 : kd = 2
              · have k2 : (kd == 2) = true := by rw [beq_iff_eq]; exact hk2
                have k2' : (kd != 2) = false := by rw [bne_eq_false_iff_eq]; exact hk2
                rw [if_neg (fun h => h.1 hk2)] at hM
                clear hk2
                go_wp2_with fail
                refine (HGP.out _ HB4.out).mono ?_
                rintro _ w5 ⟨rfl, hb9⟩
                have HB5 := Lib.hid (HB4.out.trans (hb9.mono HB4.out.size))
                have HX5 := Lib.hid (HX4.out.below hb9 HX4.out.lt); clear hb9
                have e0 := HX5.out.cell 0
                have e1 := HX5.out.cell 1
                have e2 := HX5.out.cell 2
                have e3 := HX5.out.cell 3
                simp at e0 e1 e2 e3
                by_cases hgk : gk = 0
                · have g0 : (gk == 0) = true := by rw [beq_iff_eq]; exact hgk
                  by_cases hN5 : 500 ≤ N
                  · rw [if_pos ⟨hgk, hN5⟩] at hM
                    clear hgk
                    subst hM
                    rw [if_neg (by first | decide | assumption)] at hPT
                    subst hPT
                    go_wp2_with fail
                    go_ret2
                    exact ⟨_, rfl, HO.out.1.below HB5.out, HB5.out⟩
                  · rw [if_neg (fun h => hN5 h.2)] at hM
                    clear hgk
                    subst hM
                    rw [if_pos rfl] at hPT
                    subst hPT
                    go_wp2_with fail
                    refine (HS.out _ HB5.out).mono ?_
                    rintro _ w6 ⟨r, rfl, hr9, hb9⟩
                    have HF := Lib.hid (And.intro hr9 hb9); clear hr9 hb9
                    go_wp2_with fail
                    go_ret2
                    exact ⟨_, rfl, own_wide HF.out.1 (Nat.le_trans HO.out.2 HB5.out.size), HB5.out.trans (HF.out.2.mono HB5.out.size)⟩
                · have g0 : (gk == 0) = false := by rw [beq_eq_false_iff_ne]; exact hgk
                  rw [if_neg (fun h => hgk h.1)] at hM
                  clear hgk
                  subst hM
                  rw [if_pos rfl] at hPT
                  subst hPT
                  go_wp2_with fail
                  refine (HS.out _ HB5.out).mono ?_
                  rintro _ w6 ⟨r, rfl, hr9, hb9⟩
                  have HF := Lib.hid (And.intro hr9 hb9); clear hr9 hb9
                  go_wp2_with fail
                  go_ret2
                  exact ⟨_, rfl, own_wide HF.out.1 (Nat.le_trans HO.out.2 HB5.out.size), HB5.out.trans (HF.out.2.mono HB5.out.size)⟩
              · have k2 : (kd == 2) = false := by rw [beq_eq_false_iff_ne]; exact hk2
                have k2' : (kd != 2) = true := by rw [bne_iff_ne]; exact hk2
                by_cases hh : holdsT l p = true
                · rw [if_pos ⟨hk2, hh⟩] at hM
                  rw [hh] at HH
                  clear hk2
                  go_wp2_with fail
                  refine (HH.out _ HB4.out).mono ?_
                  rintro _ w5 ⟨rfl, hb9⟩
                  have HB5 := Lib.hid (HB4.out.trans (hb9.mono HB4.out.size))
                  have HX5 := Lib.hid (HX4.out.below hb9 HX4.out.lt); clear hb9
                  have e0 := HX5.out.cell 0
                  have e1 := HX5.out.cell 1
                  have e2 := HX5.out.cell 2
                  have e3 := HX5.out.cell 3
                  simp at e0 e1 e2 e3
                  subst hM
                  rw [if_neg (by first | decide | assumption)] at hPT
                  subst hPT
                  go_wp2_with fail
                  go_ret2
                  exact ⟨_, rfl, HO.out.1.below HB5.out, HB5.out⟩
                · rw [if_neg (fun h => hh h.2)] at hM
                  rw [Bool.not_eq_true] at hh
                  rw [hh] at HH
                  clear hk2
                  go_wp2_with fail
                  refine (HH.out _ HB4.out).mono ?_
                  rintro _ w5 ⟨rfl, hb9⟩
                  have HB5 := Lib.hid (HB4.out.trans (hb9.mono HB4.out.size))
                  have HX5 := Lib.hid (HX4.out.below hb9 HX4.out.lt); clear hb9
                  have e0 := HX5.out.cell 0
                  have e1 := HX5.out.cell 1
                  have e2 := HX5.out.cell 2
                  have e3 := HX5.out.cell 3
                  simp at e0 e1 e2 e3
                  go_wp2_with fail
                  refine (HGP.out _ HB5.out).mono ?_
                  rintro _ w6 ⟨rfl, hb9⟩
                  have HB6 := Lib.hid (HB5.out.trans (hb9.mono HB5.out.size))
                  have HX6 := Lib.hid (HX5.out.below hb9 HX5.out.lt); clear hb9
                  have e0 := HX6.out.cell 0
                  have e1 := HX6.out.cell 1
                  have e2 := HX6.out.cell 2
                  have e3 := HX6.out.cell 3
                  simp at e0 e1 e2 e3
                  by_cases hgk : gk = 0
                  · have g0 : (gk == 0) = true := by rw [beq_iff_eq]; exact hgk
                    by_cases hN5 : 500 ≤ N
                    · rw [if_pos ⟨hgk, hN5⟩] at hM
                      clear hgk
                      subst hM
                      rw [if_neg (by first | decide | assumption)] at hPT
                      subst hPT
                      go_wp2_with fail
                      go_ret2
                      exact ⟨_, rfl, HO.out.1.below HB6.out, HB6.out⟩
                    · rw [if_neg (fun h => hN5 h.2)] at hM
                      clear hgk
                      subst hM
                      rw [if_pos rfl] at hPT
                      subst hPT
                      go_wp2_with fail
                      refine (HS.out _ HB6.out).mono ?_
                      rintro _ w7 ⟨r, rfl, hr9, hb9⟩
                      have HF := Lib.hid (And.intro hr9 hb9); clear hr9 hb9
                      go_wp2_with fail
                      go_ret2
                      exact ⟨_, rfl, own_wide HF.out.1 (Nat.le_trans HO.out.2 HB6.out.size), HB6.out.trans (HF.out.2.mono HB6.out.size)⟩
                  · have g0 : (gk == 0) = false := by rw [beq_eq_false_iff_ne]; exact hgk
                    rw [if_neg (fun h => hgk h.1)] at hM
                    clear hgk
                    subst hM
                    rw [if_pos rfl] at hPT
                    subst hPT
                    go_wp2_with fail
                    refine (HS.out _ HB6.out).mono ?_
                    rintro _ w7 ⟨r, rfl, hr9, hb9⟩
                    have HF := Lib.hid (And.intro hr9 hb9); clear hr9 hb9
                    go_wp2_with fail
                    go_ret2
                    exact ⟨_, rfl, own_wide HF.out.1 (Nat.le_trans HO.out.2 HB6.out.size), HB6.out.trans (HF.out.2.mono HB6.out.size)⟩
            · rw [if_neg p2] at hpar
              subst hpar
              rw [if_pos (by decide)] at hM
              have q2 : (pk == 2) = false := by rw [beq_eq_false_iff_ne]; exact p2
              have q2' : (pk != 2) = true := by rw [bne_iff_ne]; exact p2
              clear p2
              subst hM
              rw [if_neg (by first | decide | assumption)] at hPT
              subst hPT
              go_wp2_with fail
              go_ret2
              exact ⟨_, rfl, HO.out.1.below HB4.out, HB4.out⟩
      · rw [if_pos hrr] at hM
        have r0 : (RR == 0) = false := by rw [beq_eq_false_iff_ne]; exact hrr
        have r0' : (RR != 0) = true := by rw [bne_iff_ne]; exact hrr
        subst hM
        rw [if_neg (by first | decide | assumption)] at hPT
        subst hPT
        go_wp2_with fail
        go_ret2
        exact ⟨_, rfl, HO.out.1.below HB2.out, HB2.out⟩
  · rw [Bool.not_eq_true] at hr
    rw [if_pos hr] at hM
    rw [hr] at HPR
    go_enter Tryz.func65, Tryz.ntmps65
    go_wp2_with fail
    refine (HPR.out _).mono ?_
    rintro _ w1 ⟨rfl, hb9⟩
    have HB1 := Lib.hid (HB0.out.trans (hb9.mono HB0.out.size))
    have HX1 := Lib.hid (HX.out.below hb9 HX.out.lt); clear hb9
    have e0 := HX1.out.cell 0
    have e1 := HX1.out.cell 1
    have e2 := HX1.out.cell 2
    have e3 := HX1.out.cell 3
    simp at e0 e1 e2 e3
    subst hM
    rw [if_neg (by first | decide | assumption)] at hPT
    subst hPT
    go_wp2_with fail
    go_ret2
    exact ⟨_, rfl, HO.out.1.below HB1.out, HB1.out⟩
end Go.Proofs.YtihiakkeloejlaaGreatDoor
/- The reference's rows of items: Whole (at two rows that hold the same). -/
set_option linter.unusedVariables false
set_option linter.unusedSimpArgs false
namespace Go.Proofs.YtihiakkeloejlaaGreatDoor
open Go Go.RowKit
open Sw
theorem eq_item (a d : ByteArray) (k m t : Int) (W : World) : (binOp .eql 56 (.agg #[.string a, .int .i64 k, .int .i64 m, .int .u32 t, .string d]) (.agg #[.string a, .int .i64 k, .int .i64 m, .int .u32 t, .string d])).run Tryz.prog W = .ok (.bool true) W := by
  simp [go_sem, Tryz.underlying56, Tryz.underlying54, Tryz.underlying3, Tryz.underlying52, Tryz.underlying9]
theorem eq_node (d : ByteArray) (k m t : Int) (W : World) : (binOp .eql 54 (.agg #[.int .i64 k, .int .i64 m, .int .u32 t, .string d]) (.agg #[.int .i64 k, .int .i64 m, .int .u32 t, .string d])).run Tryz.prog W = .ok (.bool true) W := by
  simp [go_sem, Tryz.underlying54, Tryz.underlying3, Tryz.underlying52, Tryz.underlying9]
set_option maxRecDepth 100000 in
set_option maxHeartbeats 4000000 in
theorem ref16Whole_same (w : World) (u v : Value) (l : List NE) (hu : SlV w 5 eCSN u l) (hv : SlV w 5 eCSN v l) :
    Calls Tryz.prog 45 #[u, v] w fun e w' => e = .returned (.bool true) ∧ Below w.heap.size w w' := by
  obtain ⟨A1, c1, rfl, hc11, hc12, hsl1⟩ := hu
  obtain ⟨A2, c2, rfl, hc21, hc22, hsl2⟩ := hv
  obtain ⟨n, hn⟩ : ∃ n, l.length = n := ⟨_, rfl⟩
  rw [hn] at hc11 hc21 ⊢
  unfold maxLen at hc12 hc22
  have HL := Lib.hid hn; clear hn
  have H1 := Lib.hid hsl1; clear hsl1
  have H2 := Lib.hid hsl2; clear hsl2
  have HEQ := eq_item
  go_enter Tryz.func45, Tryz.ntmps45
  go_wp2_with fail
  go_loopw [13] (fun iv wr => ∃ i : Nat, i ≤ n ∧ iv = .int .i64 i ∧ Below w.heap.size w wr) (fun iv _ => n - (intOf iv).toNat)
  case atStart => exact ⟨0, Nat.zero_le _, rfl, Below.refl _ _⟩
  case round =>
    obtain ⟨i, hi, rfl, hb⟩ := hrel
    by_cases hlt : i < n
    · have hiL : i < l.length := by have := HL.out; omega
      obtain ⟨b1, off1, rfl, hbb1, hcs1⟩ := (H1.out.below hb (Nat.le_refl _)) (by omega)
      obtain ⟨b2, off2, rfl, hbb2, hcs2⟩ := (H2.out.below hb (Nat.le_refl _)) (by omega)
      have c0 := hcs1 i hiL 0 (by omega)
      have c1' := hcs1 i hiL 1 (by omega)
      have c2' := hcs1 i hiL 2 (by omega)
      have c3' := hcs1 i hiL 3 (by omega)
      have c4 := hcs1 i hiL 4 (by omega)
      have d0 := hcs2 i hiL 0 (by omega)
      have d1 := hcs2 i hiL 1 (by omega)
      have d2 := hcs2 i hiL 2 (by omega)
      have d3 := hcs2 i hiL 3 (by omega)
      have d4 := hcs2 i hiL 4 (by omega)
      simp only [eCSN, List.getElem?_cons_succ, List.getElem?_cons_zero, Nat.add_zero] at c0 c1' c2' c3' c4 d0 d1 d2 d3 d4
      clear hcs1 hcs2
      have hi1 : (i : Int) < n := by omega
      obtain ⟨x, hx⟩ : ∃ x, l[i] = x := ⟨_, rfl⟩
      simp only [hx] at c0 c1' c2' c3' c4 d0 d1 d2 d3 d4
      obtain ⟨a, k, m, t, d⟩ := x
      simp only at c0 c1' c2' c3' c4 d0 d1 d2 d3 d4
      clear hx
      have HB := Lib.hid hb; clear hb
      go_wp2_with fail
      go_region
      go_wp2_with fail
      go_roundw
      case rel => exact ⟨i + 1, by omega, by go_num, HB.out.drew⟩
      case measure => simp [intOf]; omega
    · obtain rfl : i = n := by omega
      have HB := Lib.hid hb; clear hb
      go_wp2_with fail
      go_ret
      exact ⟨rfl, HB.out⟩
end Go.Proofs.YtihiakkeloejlaaGreatDoor
/- tree.All. -/
set_option linter.unusedVariables false
set_option linter.unusedSimpArgs false
namespace Go.Proofs.YtihiakkeloejlaaGreatDoor
open Go Go.RowKit
open Sw
set_option maxRecDepth 100000 in
theorem treeAll_any (w : World) (bt bm : Nat) (xs : List NE) (h : TreeAt w bt bm xs) :
    Calls Tryz.prog 54 #[.pointer (some ⟨bt, 0, none⟩)] w (SeqOfSN xs w) := by
  have HL := Lib.hid (srtAllSN_any w bm xs h.map)
  have c0 := h.box.cell 0
  simp at c0
  clear h
  go_enter Tryz.func54, Tryz.ntmps54
  go_wp2_with fail
  refine HL.out.mono ?_
  rintro e w1 ⟨gb, v, rfl, h1, h2, h3, h4, h5⟩
  have HF := Lib.hid (⟨gb, v, rfl, h1, h2, h3, h4, h5⟩ : SeqOfSN xs w (.returned (.func (.func 126) #[] #[.pointer (some ⟨gb, 0, none⟩)])) w1)
  clear h1 h2 h3 h4 h5 HL
  go_wp2_with fail
  go_ret
  exact HF.out
end Go.Proofs.YtihiakkeloejlaaGreatDoor
/- tree.Bytes. -/
set_option linter.unusedVariables false
set_option linter.unusedSimpArgs false
namespace Go.Proofs.YtihiakkeloejlaaGreatDoor
open Go Go.RowKit Go.Shelf
open Sw
attribute [local go_sem] Oper.semAt_some
theorem res_cellI {P : Program} {fn : Func} {p : Tmp} {ty : TypeId} (h : fn.results = #[.cell p ty]) (tmps : Array Value) (w : World) (g : Nat) (t : TypeId) (v : Value)
    (hp : tmps.getD p undef = .pointer (some ⟨g, 0, none⟩)) (hg : Blk w g t #[v]) (hu : P.underlying ty = some (.int .i64)) : (results fn tmps).run P w = .ok v w := by
  have hp' : tmps[p]?.getD undef = .pointer (some ⟨g, 0, none⟩) := by simpa using hp
  have hc : w.cell? ⟨g, 0, none⟩ = some v := by have := hg.cell 0; simpa using this
  simp [results, h, hp', asAddr, loadVar, isAgg, run_underlying hu, run_load, hc]
/-- the bytes of the entries' data -/
def bytesT (xs : List NE) : Nat := (xs.map fun e => e.2.data.size).sum
theorem bytesT_app (a b : List NE) : bytesT (a ++ b) = bytesT a + bytesT b := by unfold bytesT; rw [List.map_append, List.sum_append]
theorem bytesT_pre {a xs : List NE} (h : a <+: xs) : bytesT a ≤ bytesT xs := by
  obtain ⟨r, rfl⟩ := h
  rw [bytesT_app]
  omega
def ByI (T M : Nat) (pre : List NE) (W : World) : Prop := Blk W T 3 #[.int .i64 (bytesT pre)] ∧ M ≤ W.heap.size
theorem ByI.own (T M : Nat) : Own (ByI T M) := fun _ A B row hs hg hr => ⟨blk_ownF hs.1 hg hr, Nat.le_trans hs.2 hg.size⟩
end Go.Proofs.YtihiakkeloejlaaGreatDoor
/- tree.Items. -/
set_option linter.unusedVariables false
set_option linter.unusedSimpArgs false
namespace Go.Proofs.YtihiakkeloejlaaGreatDoor
open Go Go.RowKit Go.Shelf
open Sw
attribute [local go_sem] Oper.semAt_some
/-- behind some words: the row in the box holds them, and the iterator lies as it lay -/
def ItI (T gb : Nat) (v : Value) (xs : List NE) (pre : List NE) (W : World) : Prop := gb < W.heap.size ∧ (∃ o, Blk W T 22 #[o] ∧ OwnIt W T o pre) ∧ Blk W gb 95 #[v] ∧ Lies W 101 5 eCSN v xs
theorem ItI.own (T gb : Nat) (v : Value) (xs : List NE) : Own (ItI T gb v xs) := fun _ A B row hs hg hr => ⟨Nat.lt_of_lt_of_le hs.1 hg.size, by obtain ⟨o, h1, h2⟩ := hs.2.1; exact ⟨o, blk_ownF h1 hg hr, own_ownF h2 hg hr⟩, blk_ownF hs.2.2.1 hg hr, hs.2.2.2.ownF hg hr⟩
theorem ItI.below {T gb : Nat} {v : Value} {xs pre : List NE} {A B : World} (hs : ItI T gb v xs pre A) (hb : Below A.heap.size A B) : ItI T gb v xs pre B := ⟨Nat.lt_of_lt_of_le hs.1 hb.size, by obtain ⟨o, h1, h2⟩ := hs.2.1; exact ⟨o, h1.below hb h1.lt, h2.below hb⟩, hs.2.2.1.below hb hs.2.2.1.lt, hs.2.2.2.below hb⟩
end Go.Proofs.YtihiakkeloejlaaGreatDoor
/- tree.Under$1: what Under leaves out. -/
set_option linter.unusedVariables false
set_option linter.unusedSimpArgs false
namespace Go.Proofs.YtihiakkeloejlaaGreatDoor
open Go Go.RowKit
open Sw
/-- is an entry neither at a path nor under it? -/
def awayT (p : ByteArray) (x : NE) : Bool := !decide (x.1 = p) && !inS (upsS x.1) p
end Go.Proofs.YtihiakkeloejlaaGreatDoor
/- slices.Clone of a row of api.Item: the same elements, in memory of the call's own. -/
set_option linter.unusedVariables false
set_option linter.unusedSimpArgs false
namespace Go.Proofs.YtihiakkeloejlaaGreatDoor
open Go Go.RowKit
open Sw
theorem infoEIT : (Tryz.prog.info? 56).map (fun i => (i.zero, i.size, i.bytes)) = some (some (.agg #[.string ⟨#[]⟩, .int .i64 0, .int .i64 0, .int .u32 0, .string ⟨#[]⟩]), 5, 56) := by kernel_rfl
end Go.Proofs.YtihiakkeloejlaaGreatDoor
/- sorted.Map[string,swingle/api.Node]: what a map holds; find. -/
set_option linter.unusedVariables false
set_option linter.unusedSimpArgs false
namespace Go.Proofs.YtihiakkeloejlaaGreatDoor
open Go Go.RowKit
open Sw
/-- an entry's cells -/
def eCIT (e : ByteArray × Nd) : List Value := [.string e.1, .int .i64 e.2.kind, .int .i64 e.2.mode, .int .u32 e.2.time, .string e.2.data]
theorem eCIT_len (e : ByteArray × Nd) : (eCIT e).length = 5 := rfl
theorem eCIT_one (e : ByteArray × Nd) : ∀ u ∈ eCIT e, u.oneCell' = true := by
  intro u hu
  simp only [eCIT, List.mem_cons, List.mem_append, List.not_mem_nil, or_false] at hu
  rcases hu with rfl | rfl | rfl | rfl | rfl <;> rfl
abbrev ordFIT : Value := .func (.func 47) #[] #[]
/-- the map in block bm holds the entries xs -/
structure SMapIT (w : World) (bm : Nat) (xs : List (ByteArray × Nd)) : Prop where
  row : ∃ v, Blk w bm 116 #[ordFIT, v] ∧ w.ownsRow 0 56 5 v xs.length (xs.flatMap eCIT)
  up : Up ordS xs
  ok : ∀ e ∈ xs, okS e.1
end Go.Proofs.YtihiakkeloejlaaGreatDoor
/- slices.Reverse of a row of api.Item that the call owns. -/
set_option linter.unusedVariables false
set_option linter.unusedSimpArgs false
namespace Go.Proofs.YtihiakkeloejlaaGreatDoor
open Go Go.RowKit
open Sw
end Go.Proofs.YtihiakkeloejlaaGreatDoor
