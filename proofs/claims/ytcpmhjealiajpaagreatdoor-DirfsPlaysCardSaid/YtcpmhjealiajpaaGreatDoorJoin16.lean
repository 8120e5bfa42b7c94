/- Several texts, joined for the limit of sixty files; each one opens with its own comment. -/
import Derived.Test.YtcpmhjealiajpaaGreatDoorJoin15
import Derived.Test.YtcpmhjealiajpaaGreatDoorJoin13
import Derived.Test.YtcpmhjealiajpaaGreatDoorJoin11
/- The reference's rows of items: Put. -/
set_option linter.unusedVariables false
set_option linter.unusedSimpArgs false
namespace Go.Proofs.YtcpmhjealiajpaaGreatDoor
open Go Go.RowKit
open Sw
set_option maxRecDepth 100000 in
set_option maxHeartbeats 8000000 in
theorem ref16Put_any (w : World) (B : Nat) (v : Value) (l : List NE) (p : ByteArray) (n : Nd) (h : OwnIt w B v l) (hB : B ≤ w.heap.size) (hu : Up ordS l) (hpt : Paths l) (hl : l.length ≤ 1000) (hok : ∀ e ∈ l, e.1.size ≤ 90000) (hp : p.size ≤ 90000) (ht0 : 0 ≤ n.time) (ht1 : n.time < 4294967296) (hd : n.data.size ≤ maxLen) :
    Calls Tryz.prog 13 #[v, .string p, .agg n.c] w fun e w' => ∃ r, e = .returned (.tuple #[r, .int .i64 (mayT l p n)]) ∧ OwnIt w' B r (putT l p n) ∧ Below w.heap.size w w' := by
  have HPR := Lib.hid (fun W => refRight_any W p (by omega))
  have HUP := Lib.hid (fun W => refUps_any W p hp)
  have HND := Lib.hid (fun W (hk : ¬ n.kind = 0) => ref14Right_any W n hk ht0 ht1 hd)
  have HG := Lib.hid (fun W q (hb : Below w.heap.size w W) => (show Calls Tryz.prog 16 #[v, .string q] W fun e w' => e = .returned (.agg (getT l q).c) ∧ Below W.heap.size W w' from by
    rw [← refGetT_eq l q hu]; exact ref16Get_any W v l q (h.below hb).slv))
  have HH := Lib.hid (fun W (hb : Below w.heap.size w W) => (show Calls Tryz.prog 50 #[v, .string p] W fun e w' => e = .returned (.bool (holdsT l p)) ∧ Below W.heap.size W w' from by
    rw [holds_any l p hu hpt]; exact ref16Holds_any W v l p (h.below hb).slv hok))
  have HS := Lib.hid (fun W (hb : Below w.heap.size w W) => (show Calls Tryz.prog 57 #[v, .string p, .agg n.c] W fun e w' => ∃ r, e = .returned r ∧ OwnIt w' W.heap.size r (putN ordS p n l) ∧ Below W.heap.size W w' from by
    rw [← setG_eq ordS_ord p n l hu]; exact ref16Set_any W v l p n (h.below hb).slv hl hp hok))
  obtain ⟨A0, c0, rfl, hAc, hAm, -⟩ := SlV_of_any h
  have HO := Lib.hid (And.intro h hB); clear h hB
  have HPL := Lib.hid (parent_last p)
  obtain ⟨N, hN⟩ : ∃ N, l.length = N := ⟨_, rfl⟩
  rw [hN] at HG HH HS HO hAc hl ⊢
  have hM : mayT l p n = if rightL p.data.toList = false then 5 else if n.kind = 0 then 1 else if ¬ nodeR n = 0 then nodeR n else if ¬ parentT l p = 0 then parentT l p else if ¬ n.kind = 2 ∧ holdsT l p = true then 8 else if (getT l p).kind = 0 ∧ 500 ≤ N then 4 else 0 := by unfold mayT; rw [hN]
  have hPT : putT l p n = if mayT l p n = 0 then putN ordS p n l else l := rfl
  generalize mayT l p n = M at hM hPT ⊢
  generalize putT l p n = PT at hPT ⊢
  have HN := Lib.hid hN; clear hN
  have HB0 := Lib.hid (((Below.refl w.heap.size w).alloc (Nat.le_refl _) (.cells n.c 30)))
  have HX := Lib.hid (Blk.new w 30 n.c)
  have hpar : parentT l p = if parentS p = ⟨#[]⟩ then 0 else if (getT l (parentS p)).kind = 0 then 7 else if (getT l (parentS p)).kind = 2 then 0 else 8 := rfl
  generalize hPP : parentT l p = PP at hM hpar; clear hPP
  generalize hRR : nodeR n = RR at hM HND; clear hRR
  generalize hGG : getT l p = GG at hM
  have HGP := Lib.hid (fun W (hb : Below w.heap.size w W) => by have := HG.out W p hb; rw [hGG] at this; exact this)
  clear hGG
  obtain ⟨gk, gm, gt, gd⟩ := GG
  obtain ⟨kd, md, tm, dt⟩ := n
  simp only [Nd.c] at HND HS HB0 HX hM HGP ⊢
  unfold maxLen at hAm
  have hfld := nodeField0
  clear ht0 ht1 hd
  by_cases hr : rightL p.data.toList = true
  · rw [if_neg (by rw [hr]; decide)] at hM
    rw [hr] at HPR
    by_cases hkd : kd = 0
    · rw [if_pos hkd] at hM
      have k0 : (kd == 0) = true := by rw [beq_iff_eq]; exact hkd
      clear hkd
      go_enter Tryz.func13, Tryz.ntmps13
      go_wp2_with fail
      refine (HPR.out _).mono ?_
      rintro _ w1 ⟨rfl, hb9⟩
      have HB1 := Lib.hid (HB0.out.trans (hb9.mono HB0.out.size))
      have HX1 := Lib.hid (HX.out.below hb9 HX.out.lt); clear hb9
      have e0 := HX1.out.cell 0
      have e1 := HX1.out.cell 1
      have e2 := HX1.out.cell 2
      have e3 := HX1.out.cell 3
      simp at e0 e1 e2 e3
      subst hM
      rw [if_neg (by first | decide | assumption)] at hPT
      subst hPT
      go_wp2_with fail
      go_ret2
      exact ⟨_, rfl, HO.out.1.below HB1.out, HB1.out⟩
    · rw [if_neg hkd] at hM
      have k0 : (kd == 0) = false := by rw [beq_eq_false_iff_ne]; exact hkd
      have HK0 := Lib.hid hkd; clear hkd
      go_enter Tryz.func13, Tryz.ntmps13
      go_wp2_with fail
      refine (HPR.out _).mono ?_
      rintro _ w1 ⟨rfl, hb9⟩
      have HB1 := Lib.hid (HB0.out.trans (hb9.mono HB0.out.size))
      have HX1 := Lib.hid (HX.out.below hb9 HX.out.lt); clear hb9
      have e0 := HX1.out.cell 0
      have e1 := HX1.out.cell 1
      have e2 := HX1.out.cell 2
      have e3 := HX1.out.cell 3
      simp at e0 e1 e2 e3
      go_wp2_with fail
      refine (HND.out _ HK0.out).mono ?_
      rintro _ w2 ⟨rfl, hb9⟩
      have HB2 := Lib.hid (HB1.out.trans (hb9.mono HB1.out.size))
      have HX2 := Lib.hid (HX1.out.below hb9 HX1.out.lt); clear hb9
      have e0 := HX2.out.cell 0
      have e1 := HX2.out.cell 1
      have e2 := HX2.out.cell 2
      have e3 := HX2.out.cell 3
      simp at e0 e1 e2 e3
      by_cases hrr : RR = 0
      · rw [if_neg (fun h => h hrr)] at hM
        have r0 : (RR == 0) = true := by rw [beq_iff_eq]; exact hrr
        have r0' : (RR != 0) = false := by rw [bne_eq_false_iff_eq]; exact hrr
        clear hrr
        go_wp2_with fail
        refine (HUP.out _).mono ?_
        rintro _ w3 ⟨uv, rfl, us, hb9⟩
        have HB3 := Lib.hid (HB2.out.trans (hb9.mono HB2.out.size))
        have HX3 := Lib.hid (HX2.out.below hb9 HX2.out.lt); clear hb9
        have e0 := HX3.out.cell 0
        have e1 := HX3.out.cell 1
        have e2 := HX3.out.cell 2
        have e3 := HX3.out.cell 3
        simp at e0 e1 e2 e3
        obtain ⟨A, c, rfl, hc1, hc2, hsl⟩ := us
        obtain ⟨U, hU⟩ : ∃ U, upsS p = U := ⟨_, rfl⟩
        rw [hU] at hc1 hsl HPL
        rw [hU]
        clear hU
        unfold maxLen at hc2
        have HSL := Lib.hid hsl; clear hsl
        rcases HPL.out with ⟨rfl, hps⟩ | ⟨hne, hla, hps⟩
        · rw [if_pos hps] at hpar
          subst hpar
          rw [if_neg (by decide)] at hM
          simp only [List.length_nil] at hc1 ⊢
          by_cases hk2 : kd = 2
          · have k2 : (kd == 2) = true := by rw [beq_iff_eq]; exact hk2
            have k2' : (kd != 2) = false := by rw [bne_eq_false_iff_eq]; exact hk2
            rw [if_neg (fun h => h.1 hk2)] at hM
            clear hk2
            go_wp2_with fail
            refine (HGP.out _ HB3.out).mono ?_
            rintro _ w4 ⟨rfl, hb9⟩
            have HB4 := Lib.hid (HB3.out.trans (hb9.mono HB3.out.size))
            have HX4 := Lib.hid (HX3.out.below hb9 HX3.out.lt); clear hb9
            have e0 := HX4.out.cell 0
            have e1 := HX4.out.cell 1
            have e2 := HX4.out.cell 2
            have e3 := HX4.out.cell 3
            simp at e0 e1 e2 e3
            by_cases hgk : gk = 0
            · have g0 : (gk == 0) = true := by rw [beq_iff_eq]; exact hgk
              by_cases hN5 : 500 ≤ N
              · rw [if_pos ⟨hgk, hN5⟩] at hM
                clear hgk
                subst hM
                rw [if_neg (by first | decide | assumption)] at hPT
                subst hPT
                go_wp2_with fail
                go_ret2
                exact ⟨_, rfl, HO.out.1.below HB4.out, HB4.out⟩
              · rw [if_neg (fun h => hN5 h.2)] at hM
                clear hgk
                subst hM
                rw [if_pos rfl] at hPT
                subst hPT
                go_wp2_with fail
                refine (HS.out _ HB4.out).mono ?_
                rintro _ w5 ⟨r, rfl, hr9, hb9⟩
                have HF := Lib.hid (And.intro hr9 hb9); clear hr9 hb9
                go_wp2_with fail
                go_ret2
                exact ⟨_, rfl, own_wide HF.out.1 (Nat.le_trans HO.out.2 HB4.out.size), HB4.out.trans (HF.out.2.mono HB4.out.size)⟩
            · have g0 : (gk == 0) = false := by rw [beq_eq_false_iff_ne]; exact hgk
              rw [if_neg (fun h => hgk h.1)] at hM
              clear hgk
              subst hM
              rw [if_pos rfl] at hPT
              subst hPT
              go_wp2_with fail
              refine (HS.out _ HB4.out).mono ?_
              rintro _ w5 ⟨r, rfl, hr9, hb9⟩
              have HF := Lib.hid (And.intro hr9 hb9); clear hr9 hb9
              go_wp2_with fail
              go_ret2
              exact ⟨_, rfl, own_wide HF.out.1 (Nat.le_trans HO.out.2 HB4.out.size), HB4.out.trans (HF.out.2.mono HB4.out.size)⟩
          · have k2 : (kd == 2) = false := by rw [beq_eq_false_iff_ne]; exact hk2
            have k2' : (kd != 2) = true := by rw [bne_iff_ne]; exact hk2
            by_cases hh : holdsT l p = true
            · rw [if_pos ⟨hk2, hh⟩] at hM
              rw [hh] at HH
              clear hk2
              go_wp2_with fail
              refine (HH.out _ HB3.out).mono ?_
              rintro _ w4 ⟨rfl, hb9⟩
              have HB4 := Lib.hid (HB3.out.trans (hb9.mono HB3.out.size))
              have HX4 := Lib.hid (HX3.out.below hb9 HX3.out.lt); clear hb9
              have e0 := HX4.out.cell 0
              have e1 := HX4.out.cell 1
              have e2 := HX4.out.cell 2
              have e3 := HX4.out.cell 3
              simp at e0 e1 e2 e3
              subst hM
              rw [if_neg (by first | decide | assumption)] at hPT
              subst hPT
              go_wp2_with fail
              go_ret2
              exact ⟨_, rfl, HO.out.1.below HB4.out, HB4.out⟩
            · rw [if_neg (fun h => hh h.2)] at hM
              rw [Bool.not_eq_true] at hh
              rw [hh] at HH
              clear hk2
              go_wp2_with fail
              refine (HH.out _ HB3.out).mono ?_
              rintro _ w4 ⟨rfl, hb9⟩
              have HB4 := Lib.hid (HB3.out.trans (hb9.mono HB3.out.size))
              have HX4 := Lib.hid (HX3.out.below hb9 HX3.out.lt); clear hb9
              have e0 := HX4.out.cell 0
              have e1 := HX4.out.cell 1
              have e2 := HX4.out.cell 2
              have e3 := HX4.out.cell 3
              simp at e0 e1 e2 e3
              go_wp2_with fail
              refine (HGP.out _ HB4.out).mono ?_
              rintro _ w5 ⟨rfl, hb9⟩
              have HB5 := Lib.hid (HB4.out.trans (hb9.mono HB4.out.size))
              have HX5 := Lib.hid (HX4.out.below hb9 HX4.out.lt); clear hb9
              have e0 := HX5.out.cell 0
              have e1 := HX5.out.cell 1
              have e2 := HX5.out.cell 2
              have e3 := HX5.out.cell 3
              simp at e0 e1 e2 e3
              by_cases hgk : gk = 0
              · have g0 : (gk == 0) = true := by rw [beq_iff_eq]; exact hgk
                by_cases hN5 : 500 ≤ N
                · rw [if_pos ⟨hgk, hN5⟩] at hM
                  clear hgk
                  subst hM
                  rw [if_neg (by first | decide | assumption)] at hPT
                  subst hPT
                  go_wp2_with fail
                  go_ret2
                  exact ⟨_, rfl, HO.out.1.below HB5.out, HB5.out⟩
                · rw [if_neg (fun h => hN5 h.2)] at hM
                  clear hgk
                  subst hM
                  rw [if_pos rfl] at hPT
                  subst hPT
                  go_wp2_with fail
                  refine (HS.out _ HB5.out).mono ?_
                  rintro _ w6 ⟨r, rfl, hr9, hb9⟩
                  have HF := Lib.hid (And.intro hr9 hb9); clear hr9 hb9
                  go_wp2_with fail
                  go_ret2
                  exact ⟨_, rfl, own_wide HF.out.1 (Nat.le_trans HO.out.2 HB5.out.size), HB5.out.trans (HF.out.2.mono HB5.out.size)⟩
              · have g0 : (gk == 0) = false := by rw [beq_eq_false_iff_ne]; exact hgk
                rw [if_neg (fun h => hgk h.1)] at hM
                clear hgk
                subst hM
                rw [if_pos rfl] at hPT
                subst hPT
                go_wp2_with fail
                refine (HS.out _ HB5.out).mono ?_
                rintro _ w6 ⟨r, rfl, hr9, hb9⟩
                have HF := Lib.hid (And.intro hr9 hb9); clear hr9 hb9
                go_wp2_with fail
                go_ret2
                exact ⟨_, rfl, own_wide HF.out.1 (Nat.le_trans HO.out.2 HB5.out.size), HB5.out.trans (HF.out.2.mono HB5.out.size)⟩
        · rw [if_neg hps] at hpar
          obtain ⟨m, hm⟩ : ∃ m, U.length = m + 1 := ⟨U.length - 1, by have := List.length_pos_iff.2 hne; omega⟩
          obtain ⟨b, off, rfl, hbb, hcs⟩ := HSL.out (by omega)
          have u0 := hcs m (by omega) 0 (by omega)
          have hum : U[m]'(by omega) = parentS p := by rw [← hla, List.getLast_eq_getElem]; congr 1; omega
          rw [hum] at u0
          simp [bE] at u0
          clear hcs
          rw [hm] at hc1 ⊢
          clear hum hla hne
          have hm1 : (((m + 1 : Nat) : Int)) - 1 = (m : Int) := by omega
          generalize hPG : getT l (parentS p) = PG at hpar
          have HPG := Lib.hid (fun W (hb : Below w.heap.size w W) => by have := HG.out W (parentS p) hb; rw [hPG] at this; exact this)
          clear hPG
          obtain ⟨pk, pm, pt, pd⟩ := PG
          simp only [Nd.c] at HPG hpar
          go_wp2_with fail
          refine (HPG.out _ HB3.out).mono ?_
          rintro _ w4 ⟨rfl, hb9⟩
          have HB4 := Lib.hid (HB3.out.trans (hb9.mono HB3.out.size))
          have HX4 := Lib.hid (HX3.out.below hb9 HX3.out.lt); clear hb9
          have e0 := HX4.out.cell 0
          have e1 := HX4.out.cell 1
          have e2 := HX4.out.cell 2
          have e3 := HX4.out.cell 3
          simp at e0 e1 e2 e3
          by_cases p0 : pk = 0
          · rw [if_pos p0] at hpar
            subst hpar
            rw [if_pos (by decide)] at hM
            have q0 : (pk == 0) = true := by rw [beq_iff_eq]; exact p0
            clear p0
            subst hM
            rw [if_neg (by first | decide | assumption)] at hPT
            subst hPT
            go_wp2_with fail
            go_ret2
            exact ⟨_, rfl, HO.out.1.below HB4.out, HB4.out⟩
          · rw [if_neg p0] at hpar
            have q0 : (pk == 0) = false := by rw [beq_eq_false_iff_ne]; exact p0
            clear p0
            by_cases p2 : pk = 2
            · rw [if_pos p2] at hpar
              subst hpar
              rw [if_neg (by decide)] at hM
              have q2 : (pk == 2) = true := by rw [beq_iff_eq]; exact p2
              have q2' : (pk != 2) = false := by rw [bne_eq_false_iff_eq]; exact p2
              clear p2
              by_cases hk2 : kd = 2
              · have k2 : (kd == 2) = true := by rw [beq_iff_eq]; exact hk2
                have k2' : (kd != 2) = false := by rw [bne_eq_false_iff_eq]; exact hk2
                rw [if_neg (fun h => h.1 hk2)] at hM
                clear hk2
                go_wp2_with fail
                refine (HGP.out _ HB4.out).mono ?_
                rintro _ w5 ⟨rfl, hb9⟩
                have HB5 := Lib.hid (HB4.out.trans (hb9.mono HB4.out.size))
                have HX5 := Lib.hid (HX4.out.below hb9 HX4.out.lt); clear hb9
                have e0 := HX5.out.cell 0
                have e1 := HX5.out.cell 1
                have e2 := HX5.out.cell 2
                have e3 := HX5.out.cell 3
                simp at e0 e1 e2 e3
                by_cases hgk : gk = 0
                · have g0 : (gk == 0) = true := by rw [beq_iff_eq]; exact hgk
                  by_cases hN5 : 500 ≤ N
                  · rw [if_pos ⟨hgk, hN5⟩] at hM
                    clear hgk
                    subst hM
                    rw [if_neg (by first | decide | assumption)] at hPT
                    subst hPT
                    go_wp2_with fail
                    go_ret2
                    exact ⟨_, rfl, HO.out.1.below HB5.out, HB5.out⟩
                  · rw [if_neg (fun h => hN5 h.2)] at hM
                    clear hgk
                    subst hM
                    rw [if_pos rfl] at hPT
                    subst hPT
                    go_wp2_with fail
                    refine (HS.out _ HB5.out).mono ?_
                    rintro _ w6 ⟨r, rfl, hr9, hb9⟩
                    have HF := Lib.hid (And.intro hr9 hb9); clear hr9 hb9
                    go_wp2_with fail
                    go_ret2
                    exact ⟨_, rfl, own_wide HF.out.1 (Nat.le_trans HO.out.2 HB5.out.size), HB5.out.trans (HF.out.2.mono HB5.out.size)⟩
                · have g0 : (gk == 0) = false := by rw [beq_eq_false_iff_ne]; exact hgk
                  rw [if_neg (fun h => hgk h.1)] at hM
                  clear hgk
                  subst hM
                  rw [if_pos rfl] at hPT
                  subst hPT
                  go_wp2_with fail
                  refine (HS.out _ HB5.out).mono ?_
                  rintro _ w6 ⟨r, rfl, hr9, hb9⟩
                  have HF := Lib.hid (And.intro hr9 hb9); clear hr9 hb9
                  go_wp2_with fail
                  go_ret2
                  exact ⟨_, rfl, own_wide HF.out.1 (Nat.le_trans HO.out.2 HB5.out.size), HB5.out.trans (HF.out.2.mono HB5.out.size)⟩
              · have k2 : (kd == 2) = false := by rw [beq_eq_false_iff_ne]; exact hk2
                have k2' : (kd != 2) = true := by rw [bne_iff_ne]; exact hk2
                by_cases hh : holdsT l p = true
                · rw [if_pos ⟨hk2, hh⟩] at hM
                  rw [hh] at HH
                  clear hk2
                  go_wp2_with fail
                  refine (HH.out _ HB4.out).mono ?_
                  rintro _ w5 ⟨rfl, hb9⟩
                  have HB5 := Lib.hid (HB4.out.trans (hb9.mono HB4.out.size))
                  have HX5 := Lib.hid (HX4.out.below hb9 HX4.out.lt); clear hb9
                  have e0 := HX5.out.cell 0
                  have e1 := HX5.out.cell 1
                  have e2 := HX5.out.cell 2
                  have e3 := HX5.out.cell 3
                  simp at e0 e1 e2 e3
                  subst hM
                  rw [if_neg (by first | decide | assumption)] at hPT
                  subst hPT
                  go_wp2_with fail
                  go_ret2
                  exact ⟨_, rfl, HO.out.1.below HB5.out, HB5.out⟩
                · rw [if_neg (fun h => hh h.2)] at hM
                  rw [Bool.not_eq_true] at hh
                  rw [hh] at HH
                  clear hk2
                  go_wp2_with fail
                  refine (HH.out _ HB4.out).mono ?_
                  rintro _ w5 ⟨rfl, hb9⟩
                  have HB5 := Lib.hid (HB4.out.trans (hb9.mono HB4.out.size))
                  have HX5 := Lib.hid (HX4.out.below hb9 HX4.out.lt); clear hb9
                  have e0 := HX5.out.cell 0
                  have e1 := HX5.out.cell 1
                  have e2 := HX5.out.cell 2
                  have e3 := HX5.out.cell 3
                  simp at e0 e1 e2 e3
                  go_wp2_with fail
                  refine (HGP.out _ HB5.out).mono ?_
                  rintro _ w6 ⟨rfl, hb9⟩
                  have HB6 := Lib.hid (HB5.out.trans (hb9.mono HB5.out.size))
                  have HX6 := Lib.hid (HX5.out.below hb9 HX5.out.lt); clear hb9
                  have e0 := HX6.out.cell 0
                  have e1 := HX6.out.cell 1
                  have e2 := HX6.out.cell 2
                  have e3 := HX6.out.cell 3
                  simp at e0 e1 e2 e3
                  by_cases hgk : gk = 0
                  · have g0 : (gk == 0) = true := by rw [beq_iff_eq]; exact hgk
                    by_cases hN5 : 500 ≤ N
                    · rw [if_pos ⟨hgk, hN5⟩] at hM
                      clear hgk
                      subst hM
                      rw [if_neg (by first | decide | assumption)] at hPT
                      subst hPT
                      go_wp2_with fail
                      go_ret2
                      exact ⟨_, rfl, HO.out.1.below HB6.out, HB6.out⟩
                    · rw [if_neg (fun h => hN5 h.2)] at hM
                      clear hgk
                      subst hM
                      rw [if_pos rfl] at hPT
                      subst hPT
                      go_wp2_with fail
                      refine (HS.out _ HB6.out).mono ?_
                      rintro _ w7 ⟨r, rfl, hr9, hb9⟩
                      have HF := Lib.hid (And.intro hr9 hb9); clear hr9 hb9
                      go_wp2_with fail
                      go_ret2
                      exact ⟨_, rfl, own_wide HF.out.1 (Nat.le_trans HO.out.2 HB6.out.size), HB6.out.trans (HF.out.2.mono HB6.out.size)⟩
                  · have g0 : (gk == 0) = false := by rw [beq_eq_false_iff_ne]; exact hgk
                    rw [if_neg (fun h => hgk h.1)] at hM
                    clear hgk
                    subst hM
                    rw [if_pos rfl] at hPT
                    subst hPT
                    go_wp2_with fail
                    refine (HS.out _ HB6.out).mono ?_
                    rintro _ w7 ⟨r, rfl, hr9, hb9⟩
                    have HF := Lib.hid (And.intro hr9 hb9); clear hr9 hb9
                    go_wp2_with fail
                    go_ret2
                    exact ⟨_, rfl, own_wide HF.out.1 (Nat.le_trans HO.out.2 HB6.out.size), HB6.out.trans (HF.out.2.mono HB6.out.size)⟩
            · rw [if_neg p2] at hpar
              subst hpar
              rw [if_pos (by decide)] at hM
              have q2 : (pk == 2) = false := by rw [beq_eq_false_iff_ne]; exact p2
              have q2' : (pk != 2) = true := by rw [bne_iff_ne]; exact p2
              clear p2
              subst hM
              rw [if_neg (by first | decide | assumption)] at hPT
              subst hPT
              go_wp2_with fail
              go_ret2
              exact ⟨_, rfl, HO.out.1.below HB4.out, HB4.out⟩
      · rw [if_pos hrr] at hM
        have r0 : (RR == 0) = false := by rw [beq_eq_false_iff_ne]; exact hrr
        have r0' : (RR != 0) = true := by rw [bne_iff_ne]; exact hrr
        subst hM
        rw [if_neg (by first | decide | assumption)] at hPT
        subst hPT
        go_wp2_with fail
        go_ret2
        exact ⟨_, rfl, HO.out.1.below HB2.out, HB2.out⟩
  · rw [Bool.not_eq_true] at hr
    rw [if_pos hr] at hM
    rw [hr] at HPR
    go_enter Tryz.func13, Tryz.ntmps13
    go_wp2_with fail
    refine (HPR.out _).mono ?_
    rintro _ w1 ⟨rfl, hb9⟩
    have HB1 := Lib.hid (HB0.out.trans (hb9.mono HB0.out.size))
    have HX1 := Lib.hid (HX.out.below hb9 HX.out.lt); clear hb9
    have e0 := HX1.out.cell 0
    have e1 := HX1.out.cell 1
    have e2 := HX1.out.cell 2
    have e3 := HX1.out.cell 3
    simp at e0 e1 e2 e3
    subst hM
    rw [if_neg (by first | decide | assumption)] at hPT
    subst hPT
    go_wp2_with fail
    go_ret2
    exact ⟨_, rfl, HO.out.1.below HB1.out, HB1.out⟩
end Go.Proofs.YtcpmhjealiajpaaGreatDoor
/- The reference's rows of items: Whole (at two rows that hold the same). -/
set_option linter.unusedVariables false
set_option linter.unusedSimpArgs false
namespace Go.Proofs.YtcpmhjealiajpaaGreatDoor
open Go Go.RowKit
open Sw
theorem eq_item (a d : ByteArray) (k m t : Int) (W : World) : (binOp .eql 32 (.agg #[.string a, .int .i64 k, .int .i64 m, .int .u32 t, .string d]) (.agg #[.string a, .int .i64 k, .int .i64 m, .int .u32 t, .string d])).run Tryz.prog W = .ok (.bool true) W := by
  simp [go_sem, Tryz.underlying32, Tryz.underlying30, Tryz.underlying3, Tryz.underlying28, Tryz.underlying9]
theorem eq_node (d : ByteArray) (k m t : Int) (W : World) : (binOp .eql 30 (.agg #[.int .i64 k, .int .i64 m, .int .u32 t, .string d]) (.agg #[.int .i64 k, .int .i64 m, .int .u32 t, .string d])).run Tryz.prog W = .ok (.bool true) W := by
  simp [go_sem, Tryz.underlying30, Tryz.underlying3, Tryz.underlying28, Tryz.underlying9]
set_option maxRecDepth 100000 in
set_option maxHeartbeats 4000000 in
theorem ref16Whole_same (w : World) (u v : Value) (l : List NE) (hu : SlV w 5 eCSN u l) (hv : SlV w 5 eCSN v l) :
    Calls Tryz.prog 19 #[u, v] w fun e w' => e = .returned (.bool true) ∧ Below w.heap.size w w' := by
  obtain ⟨A1, c1, rfl, hc11, hc12, hsl1⟩ := hu
  obtain ⟨A2, c2, rfl, hc21, hc22, hsl2⟩ := hv
  obtain ⟨n, hn⟩ : ∃ n, l.length = n := ⟨_, rfl⟩
  rw [hn] at hc11 hc21 ⊢
  unfold maxLen at hc12 hc22
  have HL := Lib.hid hn; clear hn
  have H1 := Lib.hid hsl1; clear hsl1
  have H2 := Lib.hid hsl2; clear hsl2
  have HEQ := eq_item
  go_enter Tryz.func19, Tryz.ntmps19
  go_wp2_with fail
  go_loopw [13] (fun iv wr => ∃ i : Nat, i ≤ n ∧ iv = .int .i64 i ∧ Below w.heap.size w wr) (fun iv _ => n - (intOf iv).toNat)
  case atStart => exact ⟨0, Nat.zero_le _, rfl, Below.refl _ _⟩
  case round =>
    obtain ⟨i, hi, rfl, hb⟩ := hrel
    by_cases hlt : i < n
    · have hiL : i < l.length := by have := HL.out; omega
      obtain ⟨b1, off1, rfl, hbb1, hcs1⟩ := (H1.out.below hb (Nat.le_refl _)) (by omega)
      obtain ⟨b2, off2, rfl, hbb2, hcs2⟩ := (H2.out.below hb (Nat.le_refl _)) (by omega)
      have c0 := hcs1 i hiL 0 (by omega)
      have c1' := hcs1 i hiL 1 (by omega)
      have c2' := hcs1 i hiL 2 (by omega)
      have c3' := hcs1 i hiL 3 (by omega)
      have c4 := hcs1 i hiL 4 (by omega)
      have d0 := hcs2 i hiL 0 (by omega)
      have d1 := hcs2 i hiL 1 (by omega)
      have d2 := hcs2 i hiL 2 (by omega)
      have d3 := hcs2 i hiL 3 (by omega)
      have d4 := hcs2 i hiL 4 (by omega)
      simp only [eCSN, List.getElem?_cons_succ, List.getElem?_cons_zero, Nat.add_zero] at c0 c1' c2' c3' c4 d0 d1 d2 d3 d4
      clear hcs1 hcs2
      have hi1 : (i : Int) < n := by omega
      obtain ⟨x, hx⟩ : ∃ x, l[i] = x := ⟨_, rfl⟩
      simp only [hx] at c0 c1' c2' c3' c4 d0 d1 d2 d3 d4
      obtain ⟨a, k, m, t, d⟩ := x
      simp only at c0 c1' c2' c3' c4 d0 d1 d2 d3 d4
      clear hx
      have HB := Lib.hid hb; clear hb
      go_wp2_with fail
      go_region
      go_wp2_with fail
      go_roundw
      case rel => exact ⟨i + 1, by omega, by go_num, HB.out.drew⟩
      case measure => simp [intOf]; omega
    · obtain rfl : i = n := by omega
      have HB := Lib.hid hb; clear hb
      go_wp2_with fail
      go_ret
      exact ⟨rfl, HB.out⟩
end Go.Proofs.YtcpmhjealiajpaaGreatDoor
/- dirfs: Graft. -/
set_option linter.unusedVariables false
set_option linter.unusedSimpArgs false
namespace Sw
open Go.Proofs.YtcpmhjealiajpaaGreatDoor (awayT putT_len)
/-- entries are put, one behind the other, until one may not be -/
def putsT : List NE → List NE → Int × List NE
  | ys, [] => (0, ys)
  | ys, x :: r => if mayT ys x.1 x.2 = 0 then putsT (putT ys x.1 x.2) r else (mayT ys x.1 x.2, ys)
theorem putsT_step (ys : List NE) (L : List NE) (i : Nat) (h : i < L.length) : putsT ys (L.drop i) = if mayT ys L[i].1 L[i].2 = 0 then putsT (putT ys L[i].1 L[i].2) (L.drop (i + 1)) else (mayT ys L[i].1 L[i].2, ys) := by
  rw [List.drop_eq_getElem_cons h]
  rfl
theorem putsT_len : ∀ (L ys : List NE), (putsT ys L).2.length ≤ ys.length + L.length
  | [], ys => Nat.le_refl _
  | x :: L, ys => by
    unfold putsT
    split
    · have h1 := putsT_len L (putT ys x.1 x.2)
      have h2 := putT_len ys x.1 x.2
      simp only [List.length_cons]
      omega
    · simp only [List.length_cons]; omega
theorem putsT_ti : ∀ (L : List NE) {ys : List NE}, TI ys → TI (putsT ys L).2
  | [], ys, h => h
  | x :: L, ys, h => by
    unfold putsT
    split
    · exact putsT_ti L (h.putT x.1 x.2)
    · exact h
def graftW (room : Int) (xs : List NE) (p : ByteArray) (l : List NE) : Int × List NE :=
  if l.any (awayT p) = true then (1, xs) else if (putsT (xs.filter (awayT p)) l).1 = 0 then (fitsW room (putsT (xs.filter (awayT p)) l).2, (putsT (xs.filter (awayT p)) l).2) else putsT (xs.filter (awayT p)) l
end Sw
namespace Go.Proofs.YtcpmhjealiajpaaGreatDoor
open Go Go.RowKit
open Sw
set_option maxRecDepth 100000 in
set_option maxHeartbeats 8000000 in
theorem dgraft1_any (w0 w : World) (bd bt bm gl gp gd : Nat) (xs : List NE) (p : ByteArray) (v : Value) (l : List NE) (a c d e : Value) (room : Int) (hb0 : Below w0.heap.size w0 w) (hbm : w0.heap.size ≤ bm) (h : TreeAt w bt bm xs) (hti : TI xs) (hn : xs.length ≤ 1000) (hl : l.length ≤ 1000) (hp : p.size ≤ 90000)
    (hin : ∀ x ∈ l, x.1.size ≤ 90000 ∧ NdIn x.2) (hby : bytesT (putsT (xs.filter (awayT p)) l).2 ≤ 1000000000) (hv : SlV w0 5 eCSN v l)
    (hL : Blk w0 gl 22 #[v]) (hP : Blk w0 gp 9 #[.string p]) (hD : Blk w0 gd 50 #[.pointer (some ⟨bd, 0, none⟩)]) (hB : Blk w0 bd 88 #[a, .int .i64 room, c, d, e]) :
    Calls Tryz.prog 76 #[.pointer (some ⟨bt, 0, none⟩), .pointer (some ⟨gl, 0, none⟩), .pointer (some ⟨gp, 0, none⟩), .pointer (some ⟨gd, 0, none⟩)] w fun e w' => e = .returned (.int .i64 (graftW room xs p l).1) ∧ ((graftW room xs p l).1 = 0 → TreeAt w' bt bm (graftW room xs p l).2) ∧ w.grownBy w' (some bm) := by
  obtain ⟨A, cv, rfl, hc1, hc2, hsl⟩ := hv
  obtain ⟨n, hnl⟩ : ∃ n, l.length = n := ⟨_, rfl⟩
  rw [hnl] at hc1 hL hl
  unfold maxLen at hc2
  have boxes : ∀ W, Below w0.heap.size w0 W → W.cell? ⟨gl, 0, none⟩ = some (.slice A n cv) ∧ W.cell? ⟨gp, 0, none⟩ = some (.string p) ∧ W.cell? ⟨gd, 0, none⟩ = some (.pointer (some ⟨bd, 0, none⟩)) ∧ gl < W.heap.size ∧ gp < W.heap.size ∧ gd < W.heap.size := fun W hb =>
    ⟨(hL.below hb hL.lt).cell 0, (hP.below hb hP.lt).cell 0, (hD.below hb hD.lt).cell 0, (hL.below hb hL.lt).lt, (hP.below hb hP.lt).lt, (hD.below hb hD.lt).lt⟩
  have HS := Lib.hid (And.intro hnl (And.intro hsl (And.intro hin hB)))
  have HBX := Lib.hid boxes
  have HT := Lib.hid (And.intro h (And.intro hb0 hti))
  have HG := Lib.hid (And.intro hby (show graftW room xs p l = (if l.any (awayT p) = true then ((1 : Int), xs) else if (putsT (xs.filter (awayT p)) l).1 = 0 then (fitsW room (putsT (xs.filter (awayT p)) l).2, (putsT (xs.filter (awayT p)) l).2) else putsT (xs.filter (awayT p)) l) from rfl))
  obtain ⟨m1, m2, m3, m4, m5, m6⟩ := boxes w hb0
  clear hnl hsl hin hB boxes h hb0 hL hP hD hti hby
  generalize graftW room xs p l = R at *
  go_enter Tryz.func76, Tryz.ntmps76
  go_wp2_with fail
  clear m1 m2 m3 m4 m5 m6
  go_loopw [13] (fun iv wr => ∃ i : Nat, i ≤ n ∧ iv = .int .i64 i ∧ (∀ k (hk : k < l.length), k < i → awayT p l[k] = false) ∧ Below w.heap.size w wr) (fun iv _ => n - (intOf iv).toNat)
  case atStart => exact ⟨0, Nat.zero_le _, rfl, fun k _ h => absurd h (Nat.not_lt_zero _), Below.refl _ _⟩
  case round =>
    obtain ⟨i, hi, rfl, hall, hb⟩ := hrel
    have hbw := HT.out.2.1.trans (hb.mono HT.out.2.1.size)
    obtain ⟨m1, m2, m3, m4, m5, m6⟩ := HBX.out wr hbw
    have HA := Lib.hid hall; clear hall
    by_cases hlt : i < n
    · have hiL : i < l.length := by rw [HS.out.1]; exact hlt
      obtain ⟨b, off, rfl, hbb, hcs⟩ := (HS.out.2.1.below hbw (Nat.le_refl _)) (by omega)
      have c0 := hcs i hiL 0 (by omega)
      have c1 := hcs i hiL 1 (by omega)
      have c2 := hcs i hiL 2 (by omega)
      have c3' := hcs i hiL 3 (by omega)
      have c4 := hcs i hiL 4 (by omega)
      simp only [eCSN, List.getElem?_cons_succ, List.getElem?_cons_zero, Nat.add_zero] at c0 c1 c2 c3' c4
      clear hcs
      have hi1 : (i : Int) < n := by omega
      have hq := (HS.out.2.2.1 l[i] (List.getElem_mem hiL)).1
      have haw : awayT p l[i] = (!decide (l[i].1 = p) && !inS (upsS l[i].1) p) := rfl
      have hany : awayT p l[i] = true → l.any (awayT p) = true := fun h => List.any_eq_true.2 ⟨_, List.getElem_mem hiL, h⟩
      have HN := Lib.hid (show awayT p l[i] = false → ∀ k (hk : k < l.length), k < i + 1 → awayT p l[k] = false from fun h k hk hki => by
        by_cases e : k = i
        · subst e; exact h
        · exact HA.out k hk (by omega))
      obtain ⟨x, hx⟩ : ∃ x, l[i] = x := ⟨_, rfl⟩
      rw [hx] at HN hany haw
      simp only [hx] at c0 c1 c2 c3' c4 hq
      clear hx
      have hse := str_eq x.1 p
      have hba := (Below.refl wr.heap.size wr).alloc (Nat.le_refl _) (.cells #[.string x.1, .int .i64 x.2.kind, .int .i64 x.2.mode, .int .u32 x.2.time, .string x.2.data] 32)
      have HB := Lib.hid (hb.trans (hba.mono hb.size))
      obtain ⟨q1, q2, q3, q4, q5, q6⟩ := HBX.out _ (hbw.trans (hba.mono hbw.size))
      have HU := Lib.hid (fun W => under_any W p x.1 (by omega))
      have HW := Lib.hid (And.intro haw hany)
      clear hba hb hbw haw hany
      by_cases hxp : x.1 = p
      · rw [decide_eq_true hxp] at hse
        have hse2 : (!(x.1.toList == p.toList)) = false := by rw [hse]; rfl
        have HF := Lib.hid (HN.out (by rw [HW.out.1, decide_eq_true hxp]; rfl))
        clear hxp
        go_wp2_with fail
        go_roundw
        case rel => exact ⟨i + 1, by omega, by go_num, HF.out, HB.out⟩
        case measure => simp [intOf]; omega
      · rw [decide_eq_false hxp] at hse
        have hse2 : (!(x.1.toList == p.toList)) = true := by rw [hse]; rfl
        have HX := Lib.hid (show awayT p x = !inS (upsS x.1) p from by rw [HW.out.1, decide_eq_false hxp]; rfl)
        generalize inS (upsS x.1) p = Q at *
        clear hxp
        go_wp2_with fail
        refine (HU.out _).mono ?_
        rintro e1 w2 ⟨rfl, hb2⟩
        have HB2 := Lib.hid (HB.out.trans (hb2.mono HB.out.size)); clear hb2
        cases Q with
        | true =>
          have HF := Lib.hid (HN.out (by rw [HX.out]; rfl))
          go_wp2_with fail
          go_roundw
          case rel => exact ⟨i + 1, by omega, by go_num, HF.out, HB2.out⟩
          case measure => simp [intOf]; omega
        | false =>
          have HF := Lib.hid (show R = (1, xs) from by rw [HG.out.2, if_pos (HW.out.2 (by rw [HX.out]; rfl))])
          go_wp2_with fail
          go_ret
          rw [HF.out]
          exact ⟨rfl, fun h => absurd h (by simp), grown_below HB2.out⟩
    · obtain rfl : n = i := by omega
      have hno : ¬ l.any (awayT p) = true := fun h => by
        obtain ⟨x, hx, hxa⟩ := List.any_eq_true.1 h
        obtain ⟨k, hk, rfl⟩ := List.mem_iff_getElem.1 hx
        rw [HA.out k hk (by rw [← HS.out.1]; exact hk)] at hxa
        cases hxa
      have hR := HG.out.2
      rw [if_neg hno] at hR
      have HEM := Lib.hid (emptied_any wr bt bm xs p (HT.out.1.below hb) HT.out.2.2 hn hp)
      have HR := Lib.hid (And.intro hR (And.intro hbw (grown_below hb : w.grownBy wr (some bm)))); clear hR hbw hb hno HA
      go_wp2_with fail
      refine HEM.out.mono ?_
      rintro e1 w2 ⟨rfl, ht2, hg2⟩
      have hb2 : Below w0.heap.size w0 w2 := below_grown HR.out.2.1 hg2 hbm HR.out.2.1.size
      obtain ⟨q1, q2, q3, q4, q5, q6⟩ := HBX.out w2 hb2
      obtain ⟨base, hbase⟩ : ∃ base, xs.filter (awayT p) = base := ⟨_, rfl⟩
      have hbl : base.length ≤ 1000 := by rw [← hbase]; exact Nat.le_trans (List.length_filter_le _ _) hn
      have hby := HG.out.1
      rw [hbase] at ht2 HR hby
      have H2 := Lib.hid (And.intro ht2 (And.intro hb2 (And.intro (grown_trans HR.out.2.2 hg2) hby))); clear ht2 hb2 hg2 hbase hby HEM m1 m2 m3 m4 m5 m6 HG
      obtain ⟨wo, hwo⟩ : ∃ wo, wo = wr := ⟨_, rfl⟩
      rw [← hwo] at HR
      clear hwo wr
      go_wp2_with fail
      clear q1 q2 q3 q4 q5 q6
      go_loopw [34] (fun iv wr => ∃ (i : Nat) (ys : List NE), i ≤ n ∧ iv = .int .i64 i ∧ TreeAt wr bt bm ys ∧ putsT base l = putsT ys (l.drop i) ∧ ys.length ≤ 1000 + i ∧ Below w0.heap.size w0 wr ∧ w.grownBy wr (some bm)) (fun iv _ => n - (intOf iv).toNat)
      case atStart => exact ⟨0, base, Nat.zero_le _, rfl, H2.out.1, by rw [List.drop_zero], by omega, H2.out.2.1, H2.out.2.2.1⟩
      case round =>
        obtain ⟨i, ys, hi, rfl, ht, hps, hyl, hbw, hg⟩ := hrel
        by_cases hlt : i < n
        · have hiL : i < l.length := by rw [HS.out.1]; exact hlt
          obtain ⟨b, off, rfl, hbb, hcs⟩ := (HS.out.2.1.below hbw (Nat.le_refl _)) (by omega)
          have c0 := hcs i hiL 0 (by omega)
          have c1 := hcs i hiL 1 (by omega)
          have c2 := hcs i hiL 2 (by omega)
          have c3' := hcs i hiL 3 (by omega)
          have c4 := hcs i hiL 4 (by omega)
          simp only [eCSN, List.getElem?_cons_succ, List.getElem?_cons_zero, Nat.add_zero] at c0 c1 c2 c3' c4
          clear hcs
          have hi1 : (i : Int) < n := by omega
          obtain ⟨hq, hni⟩ := HS.out.2.2.1 l[i] (List.getElem_mem hiL)
          have hst := putsT_step ys l i hiL
          obtain ⟨⟨q, kd, md, tm, dt⟩, hx⟩ : ∃ x, l[i] = x := ⟨_, rfl⟩
          simp only [hx] at c0 c1 c2 c3' c4 hq hni hst
          clear hx
          have hba := (Below.refl wr.heap.size wr).alloc (Nat.le_refl _) (.cells #[.string q, .int .i64 kd, .int .i64 md, .int .u32 tm, .string dt] 32)
          have HP := Lib.hid (treePut_any _ bt bm ys q ⟨kd, md, tm, dt⟩ (ht.below hba) (by omega) (by omega) (by
            rcases parent_last q with ⟨_, h⟩ | ⟨h, he, _⟩
            · rw [h]; decide
            · rw [← he, List.getLast_eq_getElem]; have := (ups_step q _ (by have := List.length_pos_iff.2 h; omega : (upsS q).length - 1 < (upsS q).length)).2.1; omega) hni)
          have hpl := putT_len ys q ⟨kd, md, tm, dt⟩
          have HQ := Lib.hid (And.intro (hps.trans hst) (And.intro (hbw.trans (hba.mono hbw.size)) (grown_trans hg (grown_below hba)))); clear hba ht hps hst hbw hg
          generalize mayT ys q ⟨kd, md, tm, dt⟩ = why at *
          generalize putT ys q ⟨kd, md, tm, dt⟩ = zs at *
          simp only [Nd.c] at HP
          go_wp2_with fail
          refine HP.out.mono ?_
          rintro e1 w3 ⟨rfl, ht3, hg3⟩
          have H3 := Lib.hid (And.intro ht3 (And.intro (below_grown HQ.out.2.1 hg3 hbm HQ.out.2.1.size) (grown_trans HQ.out.2.2 hg3))); clear ht3 hg3 HP
          by_cases hw : why = 0
          · have hwe : (why != 0) = false := by rw [hw]; rfl
            have HF := Lib.hid (show putsT base l = putsT zs (l.drop (i + 1)) from by rw [HQ.out.1, if_pos hw]); clear hw
            go_wp2_with fail
            go_roundw
            case rel => exact ⟨i + 1, zs, by omega, by go_num, H3.out.1, HF.out, by omega, H3.out.2.1, H3.out.2.2⟩
            case measure => simp [intOf]; omega
          · have hwe : (why != 0) = true := by rw [bne_iff_ne]; exact hw
            have HF := Lib.hid (show R = (why, ys) from by rw [HR.out.1, HQ.out.1, if_neg hw, if_neg hw])
            have HW2 := Lib.hid hw; clear hw
            go_wp2_with fail
            go_ret
            rw [HF.out]
            exact ⟨rfl, fun h => absurd h HW2.out, H3.out.2.2⟩
        · obtain rfl : n = i := by omega
          rw [List.drop_of_length_le (by rw [HS.out.1]; omega)] at hps
          have hps' : putsT base l = (0, ys) := hps
          have hR : R = (fitsW room ys, ys) := by rw [HR.out.1, hps', if_pos rfl]
          have hby : bytesT ys ≤ 1000000000 := by have := H2.out.2.2.2; rw [hps'] at this; exact this
          obtain ⟨q1, q2, q3, q4, q5, q6⟩ := HBX.out wr hbw
          have HFT := Lib.hid (fits_any wr bd bt bm ys a c d e room (HS.out.2.2.2.below hbw HS.out.2.2.2.lt) ht (by omega) hby)
          have HZ := Lib.hid (And.intro hR (And.intro ht hg)); clear hR ht hg hps hps' hby hbw
          go_wp2_with fail
          refine HFT.out.mono ?_
          rintro e1 w4 ⟨rfl, hb4⟩
          have HF := Lib.hid (And.intro (HZ.out.2.1.below hb4) (grown_trans HZ.out.2.2 (grown_below hb4))); clear hb4 HFT
          go_wp2_with fail
          go_ret
          rw [HZ.out.1]
          exact ⟨rfl, fun _ => HF.out.1, HF.out.2⟩
set_option maxRecDepth 100000 in
set_option maxHeartbeats 4000000 in
theorem dirGraft_any (w : World) (bd bt bm : Nat) (s : DS) (k : Nat) (p : ByteArray) (v : Value) (l : List NE) (h : DirAt w bd bt bm s) (hti : TI s.xs) (hok : s.Ok k) (hk : k ≤ 1000) (hn : s.xs.length ≤ 1000) (hl : l.length ≤ 1000) (hp : p.size ≤ 90000)
    (hin : ∀ x ∈ l, x.1.size ≤ 90000 ∧ NdIn x.2) (hby : bytesT (putsT (s.xs.filter (awayT p)) l).2 ≤ 1000000000) (hv : SlV w 5 eCSN v l) :
    Calls Tryz.prog 37 #[.pointer (some ⟨bd, 0, none⟩), .string p, v] w fun e w' => e = .returned (.int .i64 (stepD s (graftW s.room s.xs p l).1 (graftW s.room s.xs p l).2).1) ∧ (∃ bt' bm', DirAt w' bd bt' bm' (stepD s (graftW s.room s.xs p l).1 (graftW s.room s.xs p l).2).2) ∧ w.grownBy w' (some bd) := by
  have hb1 := (Below.refl w.heap.size w).alloc (Nat.le_refl _) (.cells #[.pointer (some ⟨bd, 0, none⟩)] 50)
  have hD1 := Blk.new w 50 #[.pointer (some ⟨bd, 0, none⟩)]
  obtain ⟨w1, hw1⟩ : ∃ w1, w.alloc (.cells #[.pointer (some ⟨bd, 0, none⟩)] 50) = w1 := ⟨_, rfl⟩
  obtain ⟨gd, hgd⟩ : ∃ gd, w.heap.size = gd := ⟨_, rfl⟩
  rw [hw1] at hb1 hD1
  rw [hgd] at hD1
  have hb2 := (Below.refl w1.heap.size w1).alloc (Nat.le_refl _) (.cells #[.string p] 9)
  have hP1 := Blk.new w1 9 #[.string p]
  obtain ⟨w2, hw2⟩ : ∃ w2, w1.alloc (.cells #[.string p] 9) = w2 := ⟨_, rfl⟩
  obtain ⟨gp, hgp⟩ : ∃ gp, w1.heap.size = gp := ⟨_, rfl⟩
  rw [hw2] at hb2 hP1
  rw [hgp] at hP1
  have hb3 := (Below.refl w2.heap.size w2).alloc (Nat.le_refl _) (.cells #[v] 22)
  have hN1 := Blk.new w2 22 #[v]
  obtain ⟨w3, hw3⟩ : ∃ w3, w2.alloc (.cells #[v] 22) = w3 := ⟨_, rfl⟩
  obtain ⟨gl, hgl⟩ : ∃ gl, w2.heap.size = gl := ⟨_, rfl⟩
  rw [hw3] at hb3 hN1
  rw [hgl] at hN1
  have hb13 := hb2.trans (hb3.mono hb2.size)
  have hbw := hb1.trans (hb13.mono hb1.size)
  have hD3 := hD1.below hb13 hD1.lt
  have hP3 := hP1.below hb3 hP1.lt
  have hd := h.below hbw
  have hv3 := hv.below hbw (Nat.le_refl _)
  have HG := Lib.hid (grown_below hbw : w.grownBy w3 (some bd))
  have HST := Lib.hid (step_any w3 bd bt bm 76 #[.pointer (some ⟨gl, 0, none⟩), .pointer (some ⟨gp, 0, none⟩), .pointer (some ⟨gd, 0, none⟩)] s k (graftW s.room s.xs p l).1 (graftW s.room s.xs p l).2 hd hok hk (enters_of Tryz.func76 (by kernel_rfl) rfl)
    (fun W bt' bm' hb ht hbm => dgraft1_any w3 W bd bt' bm' gl gp gd s.xs p v l _ _ _ _ s.room hb hbm ht hti hn hl hp hin hby hv3 hN1 hP3 hD3 hd.box))
  have x0 := hD3.cell 0
  simp at x0
  have e1 : gd + 1 = gp := by rw [← hgp, ← hw1, ← hgd]; simp
  have e2 : gp + 1 = gl := by rw [← hgl, ← hw2, ← hgp]; simp
  have HWW := Lib.hid (And.intro hw1 (And.intro hw2 (And.intro hw3 (And.intro hgd (And.intro e1 e2)))))
  obtain ⟨A, c, rfl, _, _, _⟩ := hv
  clear hw1 hw2 hw3 hgd hgp hgl e1 e2 hb1 hb2 hb3 hD1 hP1 hN1 hb13 hbw hD3 hP3 hd h hok hin hby hv3 hti
  generalize stepD s (graftW s.room s.xs p l).1 (graftW s.room s.xs p l).2 = R at *
  obtain ⟨nl, hnl⟩ : ∃ nl, l.length = nl := ⟨_, rfl⟩
  rw [hnl] at HWW
  rw [hnl]
  clear hnl
  go_enter Tryz.func37, Tryz.ntmps37
  go_wp2_with fail
  rw [HWW.out.1, HWW.out.2.1, HWW.out.2.2.1, HWW.out.2.2.2.1, HWW.out.2.2.2.2.1, HWW.out.2.2.2.2.2]
  refine HST.out.mono ?_
  rintro e w4 ⟨rfl, ⟨bt', bm', hd4⟩, hg4⟩
  have HF := Lib.hid (And.intro hd4 (grown_trans HG.out hg4)); clear hd4 hg4 HST
  go_wp2_with fail
  go_ret
  exact ⟨rfl, ⟨bt', bm', HF.out.1⟩, HF.out.2⟩
end Go.Proofs.YtcpmhjealiajpaaGreatDoor
