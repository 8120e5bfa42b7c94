/- Several texts, joined for the limit of sixty files; each one opens with its own comment. -/
import Derived.Test.YthnnnlbdbkdcaaaGreatDoorJoin12
import Derived.Test.YthnnnlbdbkdcaaaGreatDoorJoin7
import Derived.Test.YthnnnlbdbkdcaaaGreatDoorJoin10
import Derived.Test.YthnnnlbdbkdcaaaGreatDoorJoin11
import Derived.Test.YthnnnlbdbkdcaaaGreatDoorJoin1
/- The reference's Right of nodes (at a node that is one). -/
set_option linter.unusedVariables false
set_option linter.unusedSimpArgs false
namespace Go.Proofs.YthnnnlbdbkdcaaaGreatDoor
open Go Go.RowKit
open Sw
theorem refTime_any (w : World) (t : Int) (h0 : 0 ≤ t) (h1 : t < 4294967296) :
    Calls Tryz.prog 89 #[.int .u32 t] w fun e w' => e = .returned (.bool (decide (splitD t).Ok)) ∧ Below w.heap.size w w' := by
  have H1 := Lib.hid (refDosSplit_any w t h0 h1)
  have H2 := Lib.hid (fun W => refDosRight_any W (splitD t) (splitD_in t h0 h1))
  go_enter Tryz.func89, Tryz.ntmps89
  go_wp2_with fail
  refine H1.out.mono ?_
  rintro _ w1 ⟨rfl, hb1⟩
  have HB1 := Lib.hid hb1; clear hb1
  go_wp2_with fail
  refine (H2.out _).mono ?_
  rintro _ w2 ⟨rfl, hb2⟩
  have HB2 := Lib.hid (HB1.out.trans (hb2.mono HB1.out.size)); clear hb2
  go_wp2_with fail
  go_ret
  exact ⟨rfl, HB2.out⟩
set_option maxRecDepth 100000 in
set_option maxHeartbeats 4000000 in
theorem ref14Right_any (w : World) (n : Nd) (hk : ¬ n.kind = 0) (ht0 : 0 ≤ n.time) (ht1 : n.time < 4294967296) (hd : n.data.size ≤ maxLen) :
    Calls Tryz.prog 55 #[.agg n.c] w fun e w' => e = .returned (.int .i64 (nodeR n)) ∧ Below w.heap.size w w' := by
  obtain ⟨kd, md, tm, dt⟩ := n
  simp only at hk ht0 ht1 hd
  unfold maxLen at hd
  have hb0 := (Below.refl w.heap.size w).alloc (Nat.le_refl _) (.cells #[.int .i64 kd, .int .i64 md, .int .u32 tm, .string dt] 30)
  have hB0 := Blk.new w 30 #[.int .i64 kd, .int .i64 md, .int .u32 tm, .string dt]
  have H0 := Lib.hid (And.intro hb0 hB0); clear hb0 hB0
  have e0 : (kd == 0) = false := by rw [beq_eq_false_iff_ne]; exact hk
  unfold Nd.c
  have hR : nodeR ⟨kd, md, tm, dt⟩ = if ¬ kd = 1 ∧ ¬ kd = 2 then 8 else if kd = 2 ∧ (¬ dt.data.toList = [] ∨ ¬ tm = 0) then 1 else if ¬ (0 ≤ md ∧ md ≤ 511) then 12 else if kd = 1 ∧ ¬ (splitD tm).Ok then 13 else if (65000 : Int) < dt.size then 4 else 0 := by
    unfold nodeR
    simp [hk]
  rw [hR]
  clear hR
  by_cases h1 : kd = 1
  · subst h1
    rw [if_neg (by omega), if_neg (by omega)]
    have HD := Lib.hid (fun W => refTime_any W tm ht0 ht1)
    by_cases hm0 : 0 ≤ md
    · by_cases hm1 : md ≤ 511
      · rw [if_neg (fun h => h ⟨hm0, hm1⟩)]
        by_cases hk2 : (splitD tm).Ok
        · rw [decide_eq_true hk2] at HD
          rw [if_neg (fun h => h.2 hk2)]
          clear hk hk2
          by_cases hs : (65000 : Int) < dt.size
          all_goals
            first | rw [if_pos hs] | rw [if_neg hs]
            go_enter Tryz.func55, Tryz.ntmps55
            go_wp2_with fail
            refine (HD.out _).mono ?_
            rintro e w2 ⟨rfl, hb2⟩
            have x3 := (H0.out.2.below hb2 H0.out.2.lt).cell 3
            simp at x3
            have HF := Lib.hid (H0.out.1.trans (hb2.mono H0.out.1.size)); clear hb2
            go_wp2_with fail
            go_ret
            exact ⟨rfl, HF.out⟩
        · rw [decide_eq_false hk2] at HD
          rw [if_pos ⟨rfl, hk2⟩]
          clear hk hk2
          go_enter Tryz.func55, Tryz.ntmps55
          go_wp2_with fail
          refine (HD.out _).mono ?_
          rintro e w2 ⟨rfl, hb2⟩
          have HF := Lib.hid (H0.out.1.trans (hb2.mono H0.out.1.size)); clear hb2
          go_wp2_with fail
          go_ret
          exact ⟨rfl, HF.out⟩
      · rw [if_pos (fun h => hm1 h.2)]
        go_enter Tryz.func55, Tryz.ntmps55
        go_wp2_with fail
        go_ret
        exact ⟨rfl, H0.out.1⟩
    · rw [if_pos (fun h => hm0 h.1)]
      go_enter Tryz.func55, Tryz.ntmps55
      go_wp2_with fail
      go_ret
      exact ⟨rfl, H0.out.1⟩
  · have e1 : (kd == 1) = false := by rw [beq_eq_false_iff_ne]; exact h1
    by_cases h2 : kd = 2
    · subst h2
      rw [if_neg (by omega)]
      by_cases hx : dt.data.toList = []
      · by_cases hy : tm = 0
        · subst hy
          rw [if_neg (by rintro ⟨_, h⟩; rcases h with h | h <;> simp_all)]
          have hdz : dt = ⟨#[]⟩ := by cases dt with | mk d => cases d with | mk l => simp at hx; subst hx; rfl
          subst hdz
          clear hk h1 e1 hx
          by_cases hm0 : 0 ≤ md
          · by_cases hm1 : md ≤ 511
            · rw [if_neg (fun h => h ⟨hm0, hm1⟩)]
              rw [if_neg (by omega), if_neg (by decide)]
              go_enter Tryz.func55, Tryz.ntmps55
              go_wp2_with fail
              go_ret
              exact ⟨rfl, H0.out.1⟩
            · rw [if_pos (fun h => hm1 h.2)]
              go_enter Tryz.func55, Tryz.ntmps55
              go_wp2_with fail
              go_ret
              exact ⟨rfl, H0.out.1⟩
          · rw [if_pos (fun h => hm0 h.1)]
            go_enter Tryz.func55, Tryz.ntmps55
            go_wp2_with fail
            go_ret
            exact ⟨rfl, H0.out.1⟩
        · rw [if_pos ⟨rfl, .inr hy⟩]
          have hdz : dt = ⟨#[]⟩ := by cases dt with | mk d => cases d with | mk l => simp at hx; subst hx; rfl
          subst hdz
          have t0 : (tm == 0) = false := by rw [beq_eq_false_iff_ne]; exact hy
          have t1 : (tm != 0) = true := by rw [bne_iff_ne]; exact hy
          clear hk h1 e1 hx hy
          go_enter Tryz.func55, Tryz.ntmps55
          go_wp2_with fail
          go_ret
          exact ⟨rfl, H0.out.1⟩
      · rw [if_pos ⟨rfl, .inl hx⟩]
        have s0 : dt.data.toList.isEmpty = false := by cases hl : dt.data.toList with | nil => exact absurd hl hx | cons a l => rfl
        have s1 : (!dt.data.toList.isEmpty) = true := by rw [s0]; rfl
        have s2 : (dt.data.toList == []) = false := by rw [beq_eq_false_iff_ne]; exact hx
        have s3 : dt.toList.isEmpty = false := by rw [ByteArray.toList_eq]; exact s0
        clear hk h1 e1 hx
        go_enter Tryz.func55, Tryz.ntmps55
        go_wp2_with fail
        go_ret
        exact ⟨rfl, H0.out.1⟩
    · rw [if_pos ⟨h1, h2⟩]
      have e2 : (kd == 2) = false := by rw [beq_eq_false_iff_ne]; exact h2
      by_cases hn : kd < 0
      · clear hk h1 h2 e0 e1 e2
        go_enter Tryz.func55, Tryz.ntmps55
        go_wp2_with fail
        go_ret
        exact ⟨rfl, H0.out.1⟩
      · have hn2 : (2 : Int) < kd := by omega
        clear hk h1 h2 e0 e1 e2
        go_enter Tryz.func55, Tryz.ntmps55
        go_wp2_with fail
        go_ret
        exact ⟨rfl, H0.out.1⟩
end Go.Proofs.YthnnnlbdbkdcaaaGreatDoor
/- The reference's rows of items: Put. -/
set_option linter.unusedVariables false
set_option linter.unusedSimpArgs false
namespace Go.Proofs.YthnnnlbdbkdcaaaGreatDoor
open Go Go.RowKit
open Sw
set_option maxRecDepth 100000 in
set_option maxHeartbeats 8000000 in
theorem ref16Put_any (w : World) (B : Nat) (v : Value) (l : List NE) (p : ByteArray) (n : Nd) (h : OwnIt w B v l) (hB : B ≤ w.heap.size) (hu : Up ordS l) (hpt : Paths l) (hl : l.length ≤ 1000) (hok : ∀ e ∈ l, e.1.size ≤ 90000) (hp : p.size ≤ 90000) (ht0 : 0 ≤ n.time) (ht1 : n.time < 4294967296) (hd : n.data.size ≤ maxLen) :
    Calls Tryz.prog 13 #[v, .string p, .agg n.c] w fun e w' => ∃ r, e = .returned (.tuple #[r, .int .i64 (mayT l p n)]) ∧ OwnIt w' B r (putT l p n) ∧ Below w.heap.size w w' := by
  have HPR := Lib.hid (fun W => refRight_any W p (by omega))
  have HUP := Lib.hid (fun W => refUps_any W p hp)
  have HND := Lib.hid (fun W (hk : ¬ n.kind = 0) => ref14Right_any W n hk ht0 ht1 hd)
  have HG := Lib.hid (fun W q (hb : Below w.heap.size w W) => (show Calls Tryz.prog 16 #[v, .string q] W fun e w' => e = .returned (.agg (getT l q).c) ∧ Below W.heap.size W w' from by
    rw [← refGetT_eq l q hu]; exact ref16Get_any W v l q (h.below hb).slv))
  have HH := Lib.hid (fun W (hb : Below w.heap.size w W) => (show Calls Tryz.prog 50 #[v, .string p] W fun e w' => e = .returned (.bool (holdsT l p)) ∧ Below W.heap.size W w' from by
    rw [holds_any l p hu hpt]; exact ref16Holds_any W v l p (h.below hb).slv hok))
  have HS := Lib.hid (fun W (hb : Below w.heap.size w W) => (show Calls Tryz.prog 57 #[v, .string p, .agg n.c] W fun e w' => ∃ r, e = .returned r ∧ OwnIt w' W.heap.size r (putN ordS p n l) ∧ Below W.heap.size W w' from by
    rw [← setG_eq ordS_ord p n l hu]; exact ref16Set_any W v l p n (h.below hb).slv hl hp hok))
  obtain ⟨A0, c0, rfl, hAc, hAm, -⟩ := SlV_of_any h
  have HO := Lib.hid (And.intro h hB); clear h hB
  have HPL := Lib.hid (parent_last p)
  obtain ⟨N, hN⟩ : ∃ N, l.length = N := ⟨_, rfl⟩
  rw [hN] at HG HH HS HO hAc hl ⊢
  have hM : mayT l p n = if rightL p.data.toList = false then 5 else if n.kind = 0 then 1 else if ¬ nodeR n = 0 then nodeR n else if ¬ parentT l p = 0 then parentT l p else if ¬ n.kind = 2 ∧ holdsT l p = true then 8 else if (getT l p).kind = 0 ∧ 500 ≤ N then 4 else 0 := by unfold mayT; rw [hN]
  have hPT : putT l p n = if mayT l p n = 0 then putN ordS p n l else l := rfl
  generalize mayT l p n = M at hM hPT ⊢
  generalize putT l p n = PT at hPT ⊢
  have HN := Lib.hid hN; clear hN
  have HB0 := Lib.hid (((Below.refl w.heap.size w).alloc (Nat.le_refl _) (.cells n.c 30)))
  have HX := Lib.hid (Blk.new w 30 n.c)
  have hpar : parentT l p = if parentS p = ⟨#[]⟩ then 0 else if (getT l (parentS p)).kind = 0 then 7 else if (getT l (parentS p)).kind = 2 then 0 else 8 := rfl
  generalize hPP : parentT l p = PP at hM hpar; clear hPP
  generalize hRR : nodeR n = RR at hM HND; clear hRR
  generalize hGG : getT l p = GG at hM
  have HGP := Lib.hid (fun W (hb : Below w.heap.size w W) => by have := HG.out W p hb; rw [hGG] at this; exact this)
  clear hGG
  obtain ⟨gk, gm, gt, gd⟩ := GG
  obtain ⟨kd, md, tm, dt⟩ := n
  simp only [Nd.c] at HND HS HB0 HX hM HGP ⊢
  unfold maxLen at hAm
  have hfld := nodeField0
  clear ht0 ht1 hd
  by_cases hr : rightL p.data.toList = true
  · rw [if_neg (by rw [hr]; decide)] at hM
    rw [hr] at HPR
    by_cases hkd : kd = 0
    · rw [if_pos hkd] at hM
      have k0 : (kd == 0) = true := by rw [beq_iff_eq]; exact hkd
      clear hkd
      go_enter Tryz.func13, Tryz.ntmps13
      go_wp2_with fail
      refine (HPR.out _).mono ?_
      rintro _ w1 ⟨rfl, hb9⟩
      have HB1 := Lib.hid (HB0.out.trans (hb9.mono HB0.out.size))
      have HX1 := Lib.hid (HX.out.below hb9 HX.out.lt); clear hb9
      have e0 := HX1.out.cell 0
      have e1 := HX1.out.cell 1
      have e2 := HX1.out.cell 2
      have e3 := HX1.out.cell 3
      simp at e0 e1 e2 e3
      subst hM
      rw [if_neg (by first | decide | assumption)] at hPT
      subst hPT
      go_wp2_with fail
      go_ret2
      exact ⟨_, rfl, HO.out.1.below HB1.out, HB1.out⟩
    · rw [if_neg hkd] at hM
      have k0 : (kd == 0) = false := by rw [beq_eq_false_iff_ne]; exact hkd
      have HK0 := Lib.hid hkd; clear hkd
      go_enter Tryz.func13, Tryz.ntmps13
      go_wp2_with fail
      refine (HPR.out _).mono ?_
      rintro _ w1 ⟨rfl, hb9⟩
      have HB1 := Lib.hid (HB0.out.trans (hb9.mono HB0.out.size))
      have HX1 := Lib.hid (HX.out.below hb9 HX.out.lt); clear hb9
      have e0 := HX1.out.cell 0
      have e1 := HX1.out.cell 1
      have e2 := HX1.out.cell 2
      have e3 := HX1.out.cell 3
      simp at e0 e1 e2 e3
      go_wp2_with fail
      refine (HND.out _ HK0.out).mono ?_
      rintro _ w2 ⟨rfl, hb9⟩
      have HB2 := Lib.hid (HB1.out.trans (hb9.mono HB1.out.size))
      have HX2 := Lib.hid (HX1.out.below hb9 HX1.out.lt); clear hb9
      have e0 := HX2.out.cell 0
      have e1 := HX2.out.cell 1
      have e2 := HX2.out.cell 2
      have e3 := HX2.out.cell 3
      simp at e0 e1 e2 e3
      by_cases hrr : RR = 0
      · rw [if_neg (fun h => h hrr)] at hM
        have r0 : (RR == 0) = true := by rw [beq_iff_eq]; exact hrr
        have r0' : (RR != 0) = false := by rw [bne_eq_false_iff_eq]; exact hrr
        clear hrr
        go_wp2_with fail
        refine (HUP.out _).mono ?_
        rintro _ w3 ⟨uv, rfl, us, hb9⟩
        have HB3 := Lib.hid (HB2.out.trans (hb9.mono HB2.out.size))
        have HX3 := Lib.hid (HX2.out.below hb9 HX2.out.lt); clear hb9
        have e0 := HX3.out.cell 0
        have e1 := HX3.out.cell 1
        have e2 := HX3.out.cell 2
        have e3 := HX3.out.cell 3
        simp at e0 e1 e2 e3
        obtain ⟨A, c, rfl, hc1, hc2, hsl⟩ := us
        obtain ⟨U, hU⟩ : ∃ U, upsS p = U := ⟨_, rfl⟩
        rw [hU] at hc1 hsl HPL
        rw [hU]
        clear hU
        unfold maxLen at hc2
        have HSL := Lib.hid hsl; clear hsl
        rcases HPL.out with ⟨rfl, hps⟩ | ⟨hne, hla, hps⟩
        · rw [if_pos hps] at hpar
          subst hpar
          rw [if_neg (by decide)] at hM
          simp only [List.length_nil] at hc1 ⊢
          by_cases hk2 : kd = 2
          · have k2 : (kd == 2) = true := by rw [beq_iff_eq]; exact hk2
            have k2' : (kd != 2) = false := by rw [bne_eq_false_iff_eq]; exact hk2
            rw [if_neg (fun h => h.1 hk2)] at hM
            clear hk2
            go_wp2_with fail
            refine (HGP.out _ HB3.out).mono ?_
            rintro _ w4 ⟨rfl, hb9⟩
            have HB4 := Lib.hid (HB3.out.trans (hb9.mono HB3.out.size))
            have HX4 := Lib.hid (HX3.out.below hb9 HX3.out.lt); clear hb9
            have e0 := HX4.out.cell 0
            have e1 := HX4.out.cell 1
            have e2 := HX4.out.cell 2
            have e3 := HX4.out.cell 3
            simp at e0 e1 e2 e3
            by_cases hgk : gk = 0
            · have g0 : (gk == 0) = true := by rw [beq_iff_eq]; exact hgk
              by_cases hN5 : 500 ≤ N
              · rw [if_pos ⟨hgk, hN5⟩] at hM
                clear hgk
                subst hM
                rw [if_neg (by first | decide | assumption)] at hPT
                subst hPT
                go_wp2_with fail
                go_ret2
                exact ⟨_, rfl, HO.out.1.below HB4.out, HB4.out⟩
              · rw [if_neg (fun h => hN5 h.2)] at hM
                clear hgk
                subst hM
                rw [if_pos rfl] at hPT
                subst hPT
                go_wp2_with fail
                refine (HS.out _ HB4.out).mono ?_
                rintro _ w5 ⟨r, rfl, hr9, hb9⟩
                have HF := Lib.hid (And.intro hr9 hb9); clear hr9 hb9
                go_wp2_with fail
                go_ret2
                exact ⟨_, rfl, own_wide HF.out.1 (Nat.le_trans HO.out.2 HB4.out.size), HB4.out.trans (HF.out.2.mono HB4.out.size)⟩
            · have g0 : (gk == 0) = false := by rw [beq_eq_false_iff_ne]; exact hgk
              rw [if_neg (fun h => hgk h.1)] at hM
              clear hgk
              subst hM
              rw [if_pos rfl] at hPT
              subst hPT
              go_wp2_with fail
              refine (HS.out _ HB4.out).mono ?_
              rintro _ w5 ⟨r, rfl, hr9, hb9⟩
              have HF := Lib.hid (And.intro hr9 hb9); clear hr9 hb9
              go_wp2_with fail
              go_ret2
              exact ⟨_, rfl, own_wide HF.out.1 (Nat.le_trans HO.out.2 HB4.out.size), HB4.out.trans (HF.out.2.mono HB4.out.size)⟩
          · have k2 : (kd == 2) = false := by rw [beq_eq_false_iff_ne]; exact hk2
            have k2' : (kd != 2) = true := by rw [bne_iff_ne]; exact hk2
            by_cases hh : holdsT l p = true
            · rw [if_pos ⟨hk2, hh⟩] at hM
              rw [hh] at HH
              clear hk2
              go_wp2_with fail
              refine (HH.out _ HB3.out).mono ?_
              rintro _ w4 ⟨rfl, hb9⟩
              have HB4 := Lib.hid (HB3.out.trans (hb9.mono HB3.out.size))
              have HX4 := Lib.hid (HX3.out.below hb9 HX3.out.lt); clear hb9
              have e0 := HX4.out.cell 0
              have e1 := HX4.out.cell 1
              have e2 := HX4.out.cell 2
              have e3 := HX4.out.cell 3
              simp at e0 e1 e2 e3
              subst hM
              rw [if_neg (by first | decide | assumption)] at hPT
              subst hPT
              go_wp2_with fail
              go_ret2
              exact ⟨_, rfl, HO.out.1.below HB4.out, HB4.out⟩
            · rw [if_neg (fun h => hh h.2)] at hM
              rw [Bool.not_eq_true] at hh
              rw [hh] at HH
              clear hk2
              go_wp2_with fail
              refine (HH.out _ HB3.out).mono ?_
              rintro _ w4 ⟨rfl, hb9⟩
              have HB4 := Lib.hid (HB3.out.trans (hb9.mono HB3.out.size))
              have HX4 := Lib.hid (HX3.out.below hb9 HX3.out.lt); clear hb9
              have e0 := HX4.out.cell 0
              have e1 := HX4.out.cell 1
              have e2 := HX4.out.cell 2
              have e3 := HX4.out.cell 3
              simp at e0 e1 e2 e3
              go_wp2_with fail
              refine (HGP.out _ HB4.out).mono ?_
              rintro _ w5 ⟨rfl, hb9⟩
              have HB5 := Lib.hid (HB4.out.trans (hb9.mono HB4.out.size))
              have HX5 := Lib.hid (HX4.out.below hb9 HX4.out.lt); clear hb9
              have e0 := HX5.out.cell 0
              have e1 := HX5.out.cell 1
              have e2 := HX5.out.cell 2
              have e3 := HX5.out.cell 3
              simp at e0 e1 e2 e3
              by_cases hgk : gk = 0
              · have g0 : (gk == 0) = true := by rw [beq_iff_eq]; exact hgk
                by_cases hN5 : 500 ≤ N
                · rw [if_pos ⟨hgk, hN5⟩] at hM
                  clear hgk
                  subst hM
                  rw [if_neg (by first | decide | assumption)] at hPT
                  subst hPT
                  go_wp2_with fail
                  go_ret2
                  exact ⟨_, rfl, HO.out.1.below HB5.out, HB5.out⟩
                · rw [if_neg (fun h => hN5 h.2)] at hM
                  clear hgk
                  subst hM
                  rw [if_pos rfl] at hPT
                  subst hPT
                  go_wp2_with fail
                  refine (HS.out _ HB5.out).mono ?_
                  rintro _ w6 ⟨r, rfl, hr9, hb9⟩
                  have HF := Lib.hid (And.intro hr9 hb9); clear hr9 hb9
                  go_wp2_with fail
                  go_ret2
                  exact ⟨_, rfl, own_wide HF.out.1 (Nat.le_trans HO.out.2 HB5.out.size), HB5.out.trans (HF.out.2.mono HB5.out.size)⟩
              · have g0 : (gk == 0) = false := by rw [beq_eq_false_iff_ne]; exact hgk
                rw [if_neg (fun h => hgk h.1)] at hM
                clear hgk
                subst hM
                rw [if_pos rfl] at hPT
                subst hPT
                go_wp2_with fail
                refine (HS.out _ HB5.out).mono ?_
                rintro _ w6 ⟨r, rfl, hr9, hb9⟩
                have HF := Lib.hid (And.intro hr9 hb9); clear hr9 hb9
                go_wp2_with fail
                go_ret2
                exact ⟨_, rfl, own_wide HF.out.1 (Nat.le_trans HO.out.2 HB5.out.size), HB5.out.trans (HF.out.2.mono HB5.out.size)⟩
        · rw [if_neg hps] at hpar
          obtain ⟨m, hm⟩ : ∃ m, U.length = m + 1 := ⟨U.length - 1, by have := List.length_pos_iff.2 hne; omega⟩
          obtain ⟨b, off, rfl, hbb, hcs⟩ := HSL.out (by omega)
          have u0 := hcs m (by omega) 0 (by omega)
          have hum : U[m]'(by omega) = parentS p := by rw [← hla, List.getLast_eq_getElem]; congr 1; omega
          rw [hum] at u0
          simp [bE] at u0
          clear hcs
          rw [hm] at hc1 ⊢
          clear hum hla hne
          have hm1 : (((m + 1 : Nat) : Int)) - 1 = (m : Int) := by omega
          generalize hPG : getT l (parentS p) = PG at hpar
          have HPG := Lib.hid (fun W (hb : Below w.heap.size w W) => by have := HG.out W (parentS p) hb; rw [hPG] at this; exact this)
          clear hPG
          obtain ⟨pk, pm, pt, pd⟩ := PG
          simp only [Nd.c] at HPG hpar
          go_wp2_with fail
          refine (HPG.out _ HB3.out).mono ?_
          rintro _ w4 ⟨rfl, hb9⟩
          have HB4 := Lib.hid (HB3.out.trans (hb9.mono HB3.out.size))
          have HX4 := Lib.hid (HX3.out.below hb9 HX3.out.lt); clear hb9
          have e0 := HX4.out.cell 0
          have e1 := HX4.out.cell 1
          have e2 := HX4.out.cell 2
          have e3 := HX4.out.cell 3
          simp at e0 e1 e2 e3
          by_cases p0 : pk = 0
          · rw [if_pos p0] at hpar
            subst hpar
            rw [if_pos (by decide)] at hM
            have q0 : (pk == 0) = true := by rw [beq_iff_eq]; exact p0
            clear p0
            subst hM
            rw [if_neg (by first | decide | assumption)] at hPT
            subst hPT
            go_wp2_with fail
            go_ret2
            exact ⟨_, rfl, HO.out.1.below HB4.out, HB4.out⟩
          · rw [if_neg p0] at hpar
            have q0 : (pk == 0) = false := by rw [beq_eq_false_iff_ne]; exact p0
            clear p0
            by_cases p2 : pk = 2
            · rw [if_pos p2] at hpar
              subst hpar
              rw [if_neg (by decide)] at hM
              have q2 : (pk == 2) = true := by rw [beq_iff_eq]; exact p2
              have q2' : (pk != 2) = false := by rw [bne_eq_false_iff_eq]; exact p2
              clear p2
              by_cases hk2 : kd = 2
              · have k2 : (kd == 2) = true := by rw [beq_iff_eq]; exact hk2
                have k2' : (kd != 2) = false := by rw [bne_eq_false_iff_eq]; exact hk2
                rw [if_neg (fun h => h.1 hk2)] at hM
                clear hk2
                go_wp2_with fail
                refine (HGP.out _ HB4.out).mono ?_
                rintro _ w5 ⟨rfl, hb9⟩
                have HB5 := Lib.hid (HB4.out.trans (hb9.mono HB4.out.size))
                have HX5 := Lib.hid (HX4.out.below hb9 HX4.out.lt); clear hb9
                have e0 := HX5.out.cell 0
                have e1 := HX5.out.cell 1
                have e2 := HX5.out.cell 2
                have e3 := HX5.out.cell 3
                simp at e0 e1 e2 e3
                by_cases hgk : gk = 0
                · have g0 : (gk == 0) = true := by rw [beq_iff_eq]; exact hgk
                  by_cases hN5 : 500 ≤ N
                  · rw [if_pos ⟨hgk, hN5⟩] at hM
                    clear hgk
                    subst hM
                    rw [if_neg (by first | decide | assumption)] at hPT
                    subst hPT
                    go_wp2_with fail
                    go_ret2
                    exact ⟨_, rfl, HO.out.1.below HB5.out, HB5.out⟩
                  · rw [if_neg (fun h => hN5 h.2)] at hM
                    clear hgk
                    subst hM
                    rw [if_pos rfl] at hPT
                    subst hPT
                    go_wp2_with fail
                    refine (HS.out _ HB5.out).mono ?_
                    rintro _ w6 ⟨r, rfl, hr9, hb9⟩
                    have HF := Lib.hid (And.intro hr9 hb9); clear hr9 hb9
                    go_wp2_with fail
                    go_ret2
                    exact ⟨_, rfl, own_wide HF.out.1 (Nat.le_trans HO.out.2 HB5.out.size), HB5.out.trans (HF.out.2.mono HB5.out.size)⟩
                · have g0 : (gk == 0) = false := by rw [beq_eq_false_iff_ne]; exact hgk
                  rw [if_neg (fun h => hgk h.1)] at hM
                  clear hgk
                  subst hM
                  rw [if_pos rfl] at hPT
                  subst hPT
                  go_wp2_with fail
                  refine (HS.out _ HB5.out).mono ?_
                  rintro _ w6 ⟨r, rfl, hr9, hb9⟩
                  have HF := Lib.hid (And.intro hr9 hb9); clear hr9 hb9
                  go_wp2_with fail
                  go_ret2
                  exact ⟨_, rfl, own_wide HF.out.1 (Nat.le_trans HO.out.2 HB5.out.size), HB5.out.trans (HF.out.2.mono HB5.out.size)⟩
              · have k2 : (kd == 2) = false := by rw [beq_eq_false_iff_ne]; exact hk2
                have k2' : (kd != 2) = true := by rw [bne_iff_ne]; exact hk2
                by_cases hh : holdsT l p = true
                · rw [if_pos ⟨hk2, hh⟩] at hM
                  rw [hh] at HH
                  clear hk2
                  go_wp2_with fail
                  refine (HH.out _ HB4.out).mono ?_
                  rintro _ w5 ⟨rfl, hb9⟩
                  have HB5 := Lib.hid (HB4.out.trans (hb9.mono HB4.out.size))
                  have HX5 := Lib.hid (HX4.out.below hb9 HX4.out.lt); clear hb9
                  have e0 := HX5.out.cell 0
                  have e1 := HX5.out.cell 1
                  have e2 := HX5.out.cell 2
                  have e3 := HX5.out.cell 3
                  simp at e0 e1 e2 e3
                  subst hM
                  rw [if_neg (by first | decide | assumption)] at hPT
                  subst hPT
                  go_wp2_with fail
                  go_ret2
                  exact ⟨_, rfl, HO.out.1.below HB5.out, HB5.out⟩
                · rw [if_neg (fun h => hh h.2)] at hM
                  rw [Bool.not_eq_true] at hh
                  rw [hh] at HH
                  clear hk2
                  go_wp2_with fail
                  refine (HH.out _ HB4.out).mono ?_
                  rintro _ w5 ⟨rfl, hb9⟩
                  have HB5 := Lib.hid (HB4.out.trans (hb9.mono HB4.out.size))
                  have HX5 := Lib.hid (HX4.out.below hb9 HX4.out.lt); clear hb9
                  have e0 := HX5.out.cell 0
                  have e1 := HX5.out.cell 1
                  have e2 := HX5.out.cell 2
                  have e3 := HX5.out.cell 3
                  simp at e0 e1 e2 e3
                  go_wp2_with fail
                  refine (HGP.out _ HB5.out).mono ?_
                  rintro _ w6 ⟨rfl, hb9⟩
                  have HB6 := Lib.hid (HB5.out.trans (hb9.mono HB5.out.size))
                  have HX6 := Lib.hid (HX5.out.below hb9 HX5.out.lt); clear hb9
                  have e0 := HX6.out.cell 0
                  have e1 := HX6.out.cell 1
                  have e2 := HX6.out.cell 2
                  have e3 := HX6.out.cell 3
                  simp at e0 e1 e2 e3
                  by_cases hgk : gk = 0
                  · have g0 : (gk == 0) = true := by rw [beq_iff_eq]; exact hgk
                    by_cases hN5 : 500 ≤ N
                    · rw [if_pos ⟨hgk, hN5⟩] at hM
                      clear hgk
                      subst hM
                      rw [if_neg (by first | decide | assumption)] at hPT
                      subst hPT
                      go_wp2_with fail
                      go_ret2
                      exact ⟨_, rfl, HO.out.1.below HB6.out, HB6.out⟩
                    · rw [if_neg (fun h => hN5 h.2)] at hM
                      clear hgk
                      subst hM
                      rw [if_pos rfl] at hPT
                      subst hPT
                      go_wp2_with fail
                      refine (HS.out _ HB6.out).mono ?_
                      rintro _ w7 ⟨r, rfl, hr9, hb9⟩
                      have HF := Lib.hid (And.intro hr9 hb9); clear hr9 hb9
                      go_wp2_with fail
                      go_ret2
                      exact ⟨_, rfl, own_wide HF.out.1 (Nat.le_trans HO.out.2 HB6.out.size), HB6.out.trans (HF.out.2.mono HB6.out.size)⟩
                  · have g0 : (gk == 0) = false := by rw [beq_eq_false_iff_ne]; exact hgk
                    rw [if_neg (fun h => hgk h.1)] at hM
                    clear hgk
                    subst hM
                    rw [if_pos rfl] at hPT
                    subst hPT
                    go_wp2_with fail
                    refine (HS.out _ HB6.out).mono ?_
                    rintro _ w7 ⟨r, rfl, hr9, hb9⟩
                    have HF := Lib.hid (And.intro hr9 hb9); clear hr9 hb9
                    go_wp2_with fail
                    go_ret2
                    exact ⟨_, rfl, own_wide HF.out.1 (Nat.le_trans HO.out.2 HB6.out.size), HB6.out.trans (HF.out.2.mono HB6.out.size)⟩
            · rw [if_neg p2] at hpar
              subst hpar
              rw [if_pos (by decide)] at hM
              have q2 : (pk == 2) = false := by rw [beq_eq_false_iff_ne]; exact p2
              have q2' : (pk != 2) = true := by rw [bne_iff_ne]; exact p2
              clear p2
              subst hM
              rw [if_neg (by first | decide | assumption)] at hPT
              subst hPT
              go_wp2_with fail
              go_ret2
              exact ⟨_, rfl, HO.out.1.below HB4.out, HB4.out⟩
      · rw [if_pos hrr] at hM
        have r0 : (RR == 0) = false := by rw [beq_eq_false_iff_ne]; exact hrr
        have r0' : (RR != 0) = true := by rw [bne_iff_ne]; exact hrr
        subst hM
        rw [if_neg (by first | decide | assumption)] at hPT
        subst hPT
        go_wp2_with fail
        go_ret2
        exact ⟨_, rfl, HO.out.1.below HB2.out, HB2.out⟩
  · rw [Bool.not_eq_true] at hr
    rw [if_pos hr] at hM
    rw [hr] at HPR
    go_enter Tryz.func13, Tryz.ntmps13
    go_wp2_with fail
    refine (HPR.out _).mono ?_
    rintro _ w1 ⟨rfl, hb9⟩
    have HB1 := Lib.hid (HB0.out.trans (hb9.mono HB0.out.size))
    have HX1 := Lib.hid (HX.out.below hb9 HX.out.lt); clear hb9
    have e0 := HX1.out.cell 0
    have e1 := HX1.out.cell 1
    have e2 := HX1.out.cell 2
    have e3 := HX1.out.cell 3
    simp at e0 e1 e2 e3
    subst hM
    rw [if_neg (by first | decide | assumption)] at hPT
    subst hPT
    go_wp2_with fail
    go_ret2
    exact ⟨_, rfl, HO.out.1.below HB1.out, HB1.out⟩
end Go.Proofs.YthnnnlbdbkdcaaaGreatDoor
/- The reference's rows of items: Whole (at two rows that hold the same). -/
set_option linter.unusedVariables false
set_option linter.unusedSimpArgs false
namespace Go.Proofs.YthnnnlbdbkdcaaaGreatDoor
open Go Go.RowKit
open Sw
theorem eq_item (a d : ByteArray) (k m t : Int) (W : World) : (binOp .eql 32 (.agg #[.string a, .int .i64 k, .int .i64 m, .int .u32 t, .string d]) (.agg #[.string a, .int .i64 k, .int .i64 m, .int .u32 t, .string d])).run Tryz.prog W = .ok (.bool true) W := by
  simp [go_sem, Tryz.underlying32, Tryz.underlying30, Tryz.underlying3, Tryz.underlying28, Tryz.underlying9]
theorem eq_node (d : ByteArray) (k m t : Int) (W : World) : (binOp .eql 30 (.agg #[.int .i64 k, .int .i64 m, .int .u32 t, .string d]) (.agg #[.int .i64 k, .int .i64 m, .int .u32 t, .string d])).run Tryz.prog W = .ok (.bool true) W := by
  simp [go_sem, Tryz.underlying30, Tryz.underlying3, Tryz.underlying28, Tryz.underlying9]
set_option maxRecDepth 100000 in
set_option maxHeartbeats 4000000 in
theorem ref16Whole_same (w : World) (u v : Value) (l : List NE) (hu : SlV w 5 eCSN u l) (hv : SlV w 5 eCSN v l) :
    Calls Tryz.prog 19 #[u, v] w fun e w' => e = .returned (.bool true) ∧ Below w.heap.size w w' := by
  obtain ⟨A1, c1, rfl, hc11, hc12, hsl1⟩ := hu
  obtain ⟨A2, c2, rfl, hc21, hc22, hsl2⟩ := hv
  obtain ⟨n, hn⟩ : ∃ n, l.length = n := ⟨_, rfl⟩
  rw [hn] at hc11 hc21 ⊢
  unfold maxLen at hc12 hc22
  have HL := Lib.hid hn; clear hn
  have H1 := Lib.hid hsl1; clear hsl1
  have H2 := Lib.hid hsl2; clear hsl2
  have HEQ := eq_item
  go_enter Tryz.func19, Tryz.ntmps19
  go_wp2_with fail
  go_loopw [13] (fun iv wr => ∃ i : Nat, i ≤ n ∧ iv = .int .i64 i ∧ Below w.heap.size w wr) (fun iv _ => n - (intOf iv).toNat)
  case atStart => exact ⟨0, Nat.zero_le _, rfl, Below.refl _ _⟩
  case round =>
    obtain ⟨i, hi, rfl, hb⟩ := hrel
    by_cases hlt : i < n
    · have hiL : i < l.length := by have := HL.out; omega
      obtain ⟨b1, off1, rfl, hbb1, hcs1⟩ := (H1.out.below hb (Nat.le_refl _)) (by omega)
      obtain ⟨b2, off2, rfl, hbb2, hcs2⟩ := (H2.out.below hb (Nat.le_refl _)) (by omega)
      have c0 := hcs1 i hiL 0 (by omega)
      have c1' := hcs1 i hiL 1 (by omega)
      have c2' := hcs1 i hiL 2 (by omega)
      have c3' := hcs1 i hiL 3 (by omega)
      have c4 := hcs1 i hiL 4 (by omega)
      have d0 := hcs2 i hiL 0 (by omega)
      have d1 := hcs2 i hiL 1 (by omega)
      have d2 := hcs2 i hiL 2 (by omega)
      have d3 := hcs2 i hiL 3 (by omega)
      have d4 := hcs2 i hiL 4 (by omega)
      simp only [eCSN, List.getElem?_cons_succ, List.getElem?_cons_zero, Nat.add_zero] at c0 c1' c2' c3' c4 d0 d1 d2 d3 d4
      clear hcs1 hcs2
      have hi1 : (i : Int) < n := by omega
      obtain ⟨x, hx⟩ : ∃ x, l[i] = x := ⟨_, rfl⟩
      simp only [hx] at c0 c1' c2' c3' c4 d0 d1 d2 d3 d4
      obtain ⟨a, k, m, t, d⟩ := x
      simp only at c0 c1' c2' c3' c4 d0 d1 d2 d3 d4
      clear hx
      have HB := Lib.hid hb; clear hb
      go_wp2_with fail
      go_region
      go_wp2_with fail
      go_roundw
      case rel => exact ⟨i + 1, by omega, by go_num, HB.out.drew⟩
      case measure => simp [intOf]; omega
    · obtain rfl : i = n := by omega
      have HB := Lib.hid hb; clear hb
      go_wp2_with fail
      go_ret
      exact ⟨rfl, HB.out⟩
end Go.Proofs.YthnnnlbdbkdcaaaGreatDoor
/- The document's example of trees. -/
set_option linter.unusedVariables false
set_option linter.unusedSimpArgs false
namespace Sw
def dirL : Nd := ⟨2, 0, 0, ⟨#[]⟩⟩
def aS : ByteArray := ⟨#[97]⟩
def abS : ByteArray := ⟨#[97, 47, 98]⟩
theorem lives_may : mayT [] abS dirL = 7 ∧ mayT [] aS dirL = 0 ∧ mayT [(aS, dirL)] abS dirL = 0 := ⟨by kernel_rfl, by kernel_rfl, by kernel_rfl⟩
theorem lives_put : putT [] abS dirL = [] ∧ putT [] aS dirL = [(aS, dirL)] ∧ putT [(aS, dirL)] abS dirL = [(aS, dirL), (abS, dirL)] := ⟨by kernel_rfl, by kernel_rfl, by kernel_rfl⟩
theorem lives_par : (parentS abS).size = 1 ∧ (parentS aS).size = 0 := ⟨by kernel_rfl, by kernel_rfl⟩
end Sw
namespace Go.Proofs.YthnnnlbdbkdcaaaGreatDoor
open Go Go.RowKit Go.Shelf
open Sw
theorem dirL_in : NdIn dirL := ⟨by decide, by decide, by decide⟩
set_option maxRecDepth 100000 in
set_option maxHeartbeats 2000000 in
theorem lives16 (w : World) : Calls Tryz.prog 8 #[] w fun e w' => e = .returned (.bool true) ∧ Below w.heap.size w w' := by
  have HN := Lib.hid (treeNew_any w)
  go_enter Tryz.func8, Tryz.ntmps8
  go_wp2_with fail
  refine HN.out.mono ?_
  rintro e w1 ⟨bt, bm, rfl, ht, hbt, hbm, hb1⟩
  have h1 := treePut_any w1 bt bm [] abS dirL ht (by decide) (by decide) (by rw [lives_par.1]; omega) dirL_in
  rw [lives_may.1, lives_put.1] at h1
  simp only [Nd.c, dirL, abS] at h1
  have H1 := Lib.hid h1
  have HB1 := Lib.hid hb1; clear h1 hb1 ht HN
  go_wp2_with fail
  refine H1.out.mono ?_
  rintro e w2 ⟨rfl, ht, hg2⟩
  have HB2 := Lib.hid (below_grown HB1.out hg2 hbm HB1.out.size)
  have h1 := treePut_any w2 bt bm [] aS dirL ht (by decide) (by decide) (by rw [lives_par.2]; omega) dirL_in
  rw [lives_may.2.1, lives_put.2.1] at h1
  simp only [Nd.c, dirL, aS] at h1
  have H2 := Lib.hid h1; clear h1 hg2 ht H1 HB1
  go_wp2_with fail
  refine H2.out.mono ?_
  rintro e w3 ⟨rfl, ht, hg3⟩
  have HB3 := Lib.hid (below_grown HB2.out hg3 hbm HB2.out.size)
  have h1 := treePut_any w3 bt bm [(aS, dirL)] abS dirL ht (by decide) (by decide) (by rw [lives_par.1]; omega) dirL_in
  rw [lives_may.2.2, lives_put.2.2] at h1
  simp only [Nd.c, dirL, abS] at h1
  have H3 := Lib.hid h1; clear h1 hg3 ht H2 HB2
  go_wp2_with fail
  refine H3.out.mono ?_
  rintro e w4 ⟨rfl, ht, hg4⟩
  have HB4 := Lib.hid (below_grown HB3.out hg4 hbm HB3.out.size)
  have H4 := Lib.hid ((treeLen_any w4 bt bm _ ht).mono (fun e w' h => (⟨h.1, h.2⟩ : e = .returned (.int .i64 2) ∧ w4 = w'))); clear hg4 ht H3 HB3
  go_wp2_with fail
  refine H4.out.mono ?_
  rintro e w5 ⟨rfl, rfl⟩
  go_wp2_with fail
  go_ret
  exact ⟨rfl, HB4.out⟩
end Go.Proofs.YthnnnlbdbkdcaaaGreatDoor
/- The law's Light: are the steps few and small? -/
set_option linter.unusedVariables false
set_option linter.unusedSimpArgs false
namespace Go.Proofs.YthnnnlbdbkdcaaaGreatDoor
open Go Go.RowKit
open Sw
/-- a small step -/
def SmallE (e : NE) : Prop := e.1.size ≤ 100 ∧ e.2.data.size ≤ 500
set_option maxRecDepth 100000 in
set_option maxHeartbeats 4000000 in
theorem light16_any (w : World) (v : Value) (l : List NE) (h : SlV w 5 eCSN v l) (hsz : ∀ e ∈ l, e.1.size ≤ maxLen ∧ e.2.data.size ≤ maxLen) :
    Calls Tryz.prog 7 #[v] w fun e w' => ∃ R : Bool, e = .returned (.bool R) ∧ (R = true → l.length ≤ 30 ∧ ∀ e ∈ l, SmallE e) ∧ Below w.heap.size w w' := by
  obtain ⟨A, c, rfl, hc1, hc2, hsl⟩ := h
  obtain ⟨n, hn⟩ : ∃ n, l.length = n := ⟨_, rfl⟩
  rw [hn] at hc1 ⊢
  unfold maxLen at hc2 hsz
  have HL := Lib.hid hn; clear hn
  have HS := Lib.hid hsl; clear hsl
  have HZ := Lib.hid hsz; clear hsz
  by_cases h30 : n ≤ 30
  · go_enter Tryz.func7, Tryz.ntmps7
    go_wp2_with fail
    go_loopw [4, 10] (fun _ iv wr => ∃ i : Nat, i ≤ n ∧ iv = .int .i64 i ∧ (∀ k (hk : k < l.length), k < i → SmallE l[k]) ∧ Below w.heap.size w wr) (fun _ iv _ => n - (intOf iv).toNat)
    case atStart => exact ⟨0, Nat.zero_le _, rfl, fun k _ h => absurd h (Nat.not_lt_zero _), Below.refl _ _⟩
    case round =>
      obtain ⟨i, hi, rfl, hall, hb⟩ := hrel
      have HA := Lib.hid hall; clear hall
      by_cases hlt : i < n
      · have hiL : i < l.length := by have := HL.out; omega
        obtain ⟨b, off, rfl, hbb, hcs⟩ := (HS.out.below hb (Nat.le_refl _)) (by omega)
        have c0 := hcs i hiL 0 (by omega)
        have c1 := hcs i hiL 1 (by omega)
        have c2 := hcs i hiL 2 (by omega)
        have c3' := hcs i hiL 3 (by omega)
        have c4 := hcs i hiL 4 (by omega)
        simp only [eCSN, List.getElem?_cons_succ, List.getElem?_cons_zero, Nat.add_zero] at c0 c1 c2 c3' c4
        clear hcs
        have hi1 : (i : Int) < n := by omega
        obtain ⟨hz1, hz2⟩ := HZ.out l[i] (List.getElem_mem hiL)
        obtain ⟨x, hx⟩ : ∃ x, l[i] = x := ⟨_, rfl⟩
        simp only [hx] at c0 c1 c2 c3' c4 hz1 hz2
        have HX := Lib.hid hx; clear hx
        have HB := Lib.hid (hb.alloc hb.size (.cells #[.string x.1, .int .i64 x.2.kind, .int .i64 x.2.mode, .int .u32 x.2.time, .string x.2.data] 32)); clear hb
        by_cases s1 : x.1.size ≤ 100
        · by_cases s2 : x.2.data.size ≤ 500
          · have s1' : (x.1.size : Int) ≤ 100 := by omega
            have s2' : (x.2.data.size : Int) ≤ 500 := by omega
            go_wp2_with fail
            go_roundw
            case rel => exact ⟨i + 1, by omega, by go_num, fun k hk hki => by
              by_cases e : k = i
              · subst e; rw [HX.out]; exact ⟨s1, s2⟩
              · exact HA.out k hk (by omega), HB.out⟩
            case measure => simp [intOf]; omega
          · have s1' : (x.1.size : Int) ≤ 100 := by omega
            have s2' : (500 : Int) < x.2.data.size := by omega
            go_wp2_with fail
            go_ret
            exact ⟨false, rfl, fun h => absurd h (by decide), HB.out⟩
        · have s1' : (100 : Int) < x.1.size := by omega
          go_wp2_with fail
          go_ret
          exact ⟨false, rfl, fun h => absurd h (by decide), HB.out⟩
      · obtain rfl : i = n := by omega
        have HB := Lib.hid hb; clear hb
        go_wp2_with fail
        go_ret
        exact ⟨true, rfl, fun _ => ⟨h30, fun e he => by
          obtain ⟨k, hk, rfl⟩ := List.mem_iff_getElem.1 he
          exact HA.out k hk (by have := HL.out; omega)⟩, HB.out⟩
  · have h31 : (30 : Int) < n := by omega
    go_enter Tryz.func7, Tryz.ntmps7
    go_wp2_with fail
    go_ret
    exact ⟨false, rfl, fun h => absurd h (by decide), Below.refl _ _⟩
end Go.Proofs.YthnnnlbdbkdcaaaGreatDoor
/- Arguments that are rows of items, opened. -/
set_option linter.unusedVariables false
namespace Go.Proofs.YthnnnlbdbkdcaaaGreatDoor
open Go Go.ChangeShapes Go.WideShapes Go.ChangeAt Go.RowKit
open Sw
/-- an item that came in -/
def NEIn (e : NE) : Prop := e.1.size ≤ maxLen ∧ NdIn e.2
set_option maxRecDepth 100000 in
theorem dec_node {H : Type} {enc : TypeId × Value → H} {w : World} (fuel : Nat) (cs : List Value) (x : DataW H × List MemPlace) (h : DataW.trod enc Tryz.prog w 0 (fun _ => true) true fuel 30 cs = some x) :
    ∃ n : Nd, cs = [.int .i64 n.kind, .int .i64 n.mode, .int .u32 n.time, .string n.data] ∧ NdIn n := by
  obtain ⟨hl, hff⟩ := dec_fields Tryz.underlying30 (by kernel_rfl) (by kernel_rfl) h
  match cs, hl with
  | [c0, c1, c2, c3], _ =>
    obtain ⟨v0, n0, y0, e0, h0⟩ := hff 0 _ rfl
    obtain ⟨v1, n1, y1, e1, h1⟩ := hff 1 _ rfl
    obtain ⟨v2, n2, y2, e2, h2⟩ := hff 2 _ rfl
    obtain ⟨v3, n3, y3, e3, h3⟩ := hff 3 _ rfl
    simp at e0 e1 e2 e3
    subst e0 e1 e2 e3
    obtain ⟨k0, ek0, _, _⟩ := DataW.trod_int Tryz.underlying3 h0
    obtain ⟨k1, ek1, _, _⟩ := DataW.trod_int Tryz.underlying3 h1
    obtain ⟨k2, ek2, _, wk⟩ := DataW.trod_int Tryz.underlying28 h2
    obtain ⟨s, hs, _, hl⟩ := DataW.trod_string Tryz.underlying9 h3
    obtain ⟨b0, b1⟩ := bounds_u32 wk
    simp at ek0 ek1 ek2 hs
    subst ek0 ek1 ek2 hs
    exact ⟨⟨k0, k1, k2, s⟩, rfl, b0, by show k2 < 4294967296; omega, hl⟩
set_option maxRecDepth 100000 in
theorem dec_item {H : Type} {enc : TypeId × Value → H} {w : World} (fuel : Nat) (cs : List Value) (x : DataW H × List MemPlace) (h : DataW.trod enc Tryz.prog w 0 (fun _ => true) true fuel 32 cs = some x) :
    ∃ e : NE, cs = eCSN e ∧ NEIn e := by
  obtain ⟨y0, y1, n, _, hl, h0, h1⟩ := trod_struct2 Tryz.underlying32 h
  have hl5 : cs.length = 5 := hl.trans (by kernel_rfl)
  match cs, hl5 with
  | [c0, c1, c2, c3, c4], _ =>
    rw [show Tryz.prog.cellsOf 9 = 1 by kernel_rfl] at h0
    rw [show Tryz.prog.cellsOf 30 = 4 by kernel_rfl] at h1
    simp only [List.drop_zero, List.drop_succ_cons, List.take_succ_cons, List.take_zero] at h0 h1
    obtain ⟨s, hs, _, hsz⟩ := DataW.trod_string Tryz.underlying9 h0
    simp at hs
    subst hs
    obtain ⟨m, hm, hin⟩ := dec_node _ _ _ h1
    simp at hm
    obtain ⟨rfl, rfl, rfl, rfl⟩ := hm
    exact ⟨(s, m), rfl, hsz, hin⟩
end Go.Proofs.YthnnnlbdbkdcaaaGreatDoor
/- TreePlays: the tree and the reference's row behind some steps. -/
set_option linter.unusedVariables false
set_option linter.unusedSimpArgs false
namespace Go.Proofs.YthnnnlbdbkdcaaaGreatDoor
open Go Go.RowKit
open Sw
theorem parent_size (p : ByteArray) : (parentS p).size ≤ 200 := by
  rcases parent_last p with ⟨_, h⟩ | ⟨h, he, _⟩
  · rw [h]; decide
  · rw [← he, List.getLast_eq_getElem]; exact (ups_step p _ _).2.1
/-- behind some steps: the tree, the reference's row, and the box of the last argument; the tree holds ys, the row xs -/
structure PlM (w0 : World) (T bt bm : Nat) (m : Value) (xv : Value) (xs ys : List NE) (W : World) : Prop where
  tree : TreeAt W bt bm ys
  row : OwnIt W w0.heap.size xv xs
  box : Blk W T 23 #[m]
  hbm : w0.heap.size ≤ bm
  old : Below w0.heap.size w0 W
/-- what a row of items of a tree keeps -/
structure Fit (xs : List NE) (k : Nat) : Prop where
  len : xs.length ≤ k
  up : Up ordS xs
  paths : Paths xs
  ok : ∀ e ∈ xs, e.1.size ≤ 90000
  small : ∀ e ∈ xs, e.2.data.size ≤ 500
section
variable {w0 W W' : World} {T bt bm : Nat} {m xv : Value} {xs ys zs : List NE}
theorem PlM.below (h : PlM w0 T bt bm m xv xs ys W) (hb : Below W.heap.size W W') : PlM w0 T bt bm m xv xs ys W' :=
  ⟨h.tree.below hb, h.row.below hb, h.box.below hb h.box.lt, h.hbm, h.old.trans (hb.mono h.old.size)⟩
theorem PlM.turn (h : PlM w0 T bt bm m xv xs ys W) (ht : TreeAt W' bt bm zs) (hg : W.grownBy W' (some bm)) : PlM w0 T bt bm m xv xs zs W' := by
  obtain ⟨v, hb, _⟩ := h.tree.map.row
  exact ⟨ht, h.row.kept hg (.inr (own_ne_blk h.row hb (by decide))), h.box.grown hg (fun e => Blk.other h.box hb (by decide) (Option.some.inj e)), h.hbm, below_grown h.old hg h.hbm h.old.size⟩
theorem Fit.nil (k : Nat) : Fit [] k := ⟨Nat.zero_le _, List.Pairwise.nil, fun _ h => absurd h (by simp), fun _ h => absurd h (by simp), fun _ h => absurd h (by simp)⟩
end
theorem Fit.put {xs : List NE} {k : Nat} (h : Fit xs k) (p : ByteArray) (n : Nd) (hp : p.size ≤ 90000) (hn : n.data.size ≤ 500) : Fit (putT xs p n) (k + 1) := by
  have hm : ∀ e ∈ putT xs p n, e = (p, n) ∨ e ∈ xs := fun e he => by
    unfold putT at he
    split at he
    · exact put_mem p n xs e he
    · exact .inr he
  refine ⟨Nat.le_trans (putT_len xs p n) (by have := h.len; omega), ?_, h.paths.ofPut p n, fun e he => ?_, fun e he => ?_⟩
  · unfold putT
    split
    · exact put_up ordS_ord p n xs h.up
    · exact h.up
  · rcases hm e he with rfl | he
    · exact hp
    · exact h.ok e he
  · rcases hm e he with rfl | he
    · exact hn
    · exact h.small e he
theorem Fit.drop {xs : List NE} {k : Nat} (h : Fit xs k) (p : ByteArray) : Fit (dropT xs p) (k + 1) := by
  have hm : ∀ e ∈ dropT xs p, e ∈ xs := fun e he => by
    unfold dropT at he
    split at he
    · exact drop_mem p xs e he
    · exact he
  refine ⟨Nat.le_trans (dropT_len xs p) (by have := h.len; omega), ?_, h.paths.ofDrop p, fun e he => h.ok e (hm e he), fun e he => h.small e (hm e he)⟩
  unfold dropT
  split
  · exact drop_up ordS_ord p xs h.up
  · exact h.up
theorem plPut_any {w0 : World} {T bt bm : Nat} {m xv : Value} {xs : List NE} {k : Nat} (W : World) (p : ByteArray) (n : Nd) (h : PlM w0 T bt bm m xv xs xs W) (hf : Fit xs k) (hk : k ≤ 30) (hp : p.size ≤ 90000) (hin : NdIn n) :
    Calls Tryz.prog 12 #[.pointer (some ⟨bt, 0, none⟩), .string p, .agg n.c] W fun e w' => e = .returned (.int .i64 (mayT xs p n)) ∧ PlM w0 T bt bm m xv xs (putT xs p n) w' ∧ W.grownBy w' (some bm) :=
  (treePut_any W bt bm xs p n h.tree (by have := hf.len; omega) hp (by have := parent_size p; omega) hin).mono fun e w' ⟨h1, h2, h3⟩ => ⟨h1, h.turn h2 h3, h3⟩
theorem plDrop_any {w0 : World} {T bt bm : Nat} {m xv : Value} {xs : List NE} {k : Nat} (W : World) (p : ByteArray) (h : PlM w0 T bt bm m xv xs xs W) (hf : Fit xs k) (hk : k ≤ 30) (hp : p.size ≤ 90000) :
    Calls Tryz.prog 10 #[.pointer (some ⟨bt, 0, none⟩), .string p] W fun e w' => e = .returned (.int .i64 (whyDrop xs p)) ∧ PlM w0 T bt bm m xv xs (dropT xs p) w' ∧ W.grownBy w' (some bm) :=
  (treeDrop_any W bt bm xs p h.tree (by have := hf.len; omega) hp).mono fun e w' ⟨h1, h2, h3⟩ => ⟨h1, h.turn h2 h3, h3⟩
theorem plRefPut_any {w0 : World} {T bt bm : Nat} {m xv : Value} {xs : List NE} {k : Nat} (W : World) (p : ByteArray) (n : Nd) (h : PlM w0 T bt bm m xv xs (putT xs p n) W) (hf : Fit xs k) (hk : k ≤ 30) (hp : p.size ≤ 90000) (hin : NdIn n) :
    Calls Tryz.prog 13 #[xv, .string p, .agg n.c] W fun e w' => ∃ A j c, e = .returned (.tuple #[.slice A j c, .int .i64 (mayT xs p n)]) ∧ j = (putT xs p n).length ∧ PlM w0 T bt bm m (.slice A j c) (putT xs p n) (putT xs p n) w' ∧ Below W.heap.size W w' :=
  (ref16Put_any W w0.heap.size xv xs p n h.row h.old.size hf.up hf.paths (by have := hf.len; omega) hf.ok hp hin.t0 hin.t1 hin.size).mono fun e w' ⟨r, h1, h2, h3⟩ => by
    obtain ⟨A, c, rfl, _, _, _⟩ := SlV_of_any h2
    exact ⟨A, _, c, h1, rfl, ⟨h.tree.below h3, h2, h.box.below h3 h.box.lt, h.hbm, h.old.trans (h3.mono h.old.size)⟩, h3⟩
theorem plRefDrop_any {w0 : World} {T bt bm : Nat} {m xv : Value} {xs : List NE} {k : Nat} (W : World) (p : ByteArray) (h : PlM w0 T bt bm m xv xs (dropT xs p) W) (hf : Fit xs k) (hk : k ≤ 30) :
    Calls Tryz.prog 11 #[xv, .string p] W fun e w' => ∃ A j c, e = .returned (.tuple #[.slice A j c, .int .i64 (whyDrop xs p)]) ∧ j = (dropT xs p).length ∧ PlM w0 T bt bm m (.slice A j c) (dropT xs p) (dropT xs p) w' ∧ Below W.heap.size W w' :=
  (ref16Drop_any W w0.heap.size xv xs p h.row h.old.size hf.up hf.paths (by have := hf.len; omega) hf.ok).mono fun e w' ⟨r, h1, h2, h3⟩ => by
    obtain ⟨A, c, rfl, _, _, _⟩ := SlV_of_any h2
    exact ⟨A, _, c, h1, rfl, ⟨h.tree.below h3, h2, h.box.below h3 h.box.lt, h.hbm, h.old.trans (h3.mono h.old.size)⟩, h3⟩
end Go.Proofs.YthnnnlbdbkdcaaaGreatDoor
