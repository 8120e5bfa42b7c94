/- Several texts, joined for the limit of sixty files; each one opens with its own comment. -/
import Derived.Test.YtmpgmgjokliceaaGreatDoorJoin30
import Derived.Test.YtmpgmgjokliceaaGreatDoorJoin29
import Derived.Test.YtmpgmgjokliceaaGreatDoorJoin19
import Derived.Test.YtmpgmgjokliceaaGreatDoorJoin16
import Derived.Test.YtmpgmgjokliceaaGreatDoorJoin15
/- The reference's rows of items: Put. -/
set_option linter.unusedVariables false
set_option linter.unusedSimpArgs false
namespace Go.Proofs.YtmpgmgjokliceaaGreatDoor
open Go Go.RowKit
open Sw
set_option maxRecDepth 100000 in
set_option maxHeartbeats 8000000 in
theorem ref16Put_any (w : World) (B : Nat) (v : Value) (l : List NE) (p : ByteArray) (n : Nd) (h : OwnIt w B v l) (hB : B ≤ w.heap.size) (hu : Up ordS l) (hpt : Paths l) (hl : l.length ≤ 1000) (hok : ∀ e ∈ l, e.1.size ≤ 90000) (hp : p.size ≤ 90000) (ht0 : 0 ≤ n.time) (ht1 : n.time < 4294967296) (hd : n.data.size ≤ maxLen) :
    Calls Tryz.prog 112 #[v, .string p, .agg n.c] w fun e w' => ∃ r, e = .returned (.tuple #[r, .int .i64 (mayT l p n)]) ∧ OwnIt w' B r (putT l p n) ∧ Below w.heap.size w w' := by
  have HPR := Lib.hid (fun W => refRight_any W p (by omega))
  have HUP := Lib.hid (fun W => refUps_any W p hp)
  have HND := Lib.hid (fun W (hk : ¬ n.kind = 0) => ref14Right_any W n hk ht0 ht1 hd)
  have HG := Lib.hid (fun W q (hb : Below w.heap.size w W) => (show Calls Tryz.prog 46 #[v, .string q] W fun e w' => e = .returned (.agg (getT l q).c) ∧ Below W.heap.size W w' from by
    rw [← refGetT_eq l q hu]; exact ref16Get_any W v l q (h.below hb).slv))
  have HH := Lib.hid (fun W (hb : Below w.heap.size w W) => (show Calls Tryz.prog 167 #[v, .string p] W fun e w' => e = .returned (.bool (holdsT l p)) ∧ Below W.heap.size W w' from by
    rw [holds_any l p hu hpt]; exact ref16Holds_any W v l p (h.below hb).slv hok))
  have HS := Lib.hid (fun W (hb : Below w.heap.size w W) => (show Calls Tryz.prog 168 #[v, .string p, .agg n.c] W fun e w' => ∃ r, e = .returned r ∧ OwnIt w' W.heap.size r (putN ordS p n l) ∧ Below W.heap.size W w' from by
    rw [← setG_eq ordS_ord p n l hu]; exact ref16Set_any W v l p n (h.below hb).slv hl hp hok))
  obtain ⟨A0, c0, rfl, hAc, hAm, -⟩ := SlV_of_any h
  have HO := Lib.hid (And.intro h hB); clear h hB
  have HPL := Lib.hid (parent_last p)
  obtain ⟨N, hN⟩ : ∃ N, l.length = N := ⟨_, rfl⟩
  rw [hN] at HG HH HS HO hAc hl ⊢
  have hM : mayT l p n = if rightL p.data.toList = false then 5 else if n.kind = 0 then 1 else if ¬ nodeR n = 0 then nodeR n else if ¬ parentT l p = 0 then parentT l p else if ¬ n.kind = 2 ∧ holdsT l p = true then 8 else if (getT l p).kind = 0 ∧ 500 ≤ N then 4 else 0 := by unfold mayT; rw [hN]
  have hPT : putT l p n = if mayT l p n = 0 then putN ordS p n l else l := rfl
  generalize mayT l p n = M at hM hPT ⊢
  generalize putT l p n = PT at hPT ⊢
  have HN := Lib.hid hN; clear hN
  have HB0 := Lib.hid (((Below.refl w.heap.size w).alloc (Nat.le_refl _) (.cells n.c 37)))
  have HX := Lib.hid (Blk.new w 37 n.c)
  have hpar : parentT l p = if parentS p = ⟨#[]⟩ then 0 else if (getT l (parentS p)).kind = 0 then 7 else if (getT l (parentS p)).kind = 2 then 0 else 8 := rfl
  generalize hPP : parentT l p = PP at hM hpar; clear hPP
  generalize hRR : nodeR n = RR at hM HND; clear hRR
  generalize hGG : getT l p = GG at hM
  have HGP := Lib.hid (fun W (hb : Below w.heap.size w W) => by have := HG.out W p hb; rw [hGG] at this; exact this)
  clear hGG
  obtain ⟨gk, gm, gt, gd⟩ := GG
  obtain ⟨kd, md, tm, dt⟩ := n
  simp only [Nd.c] at HND HS HB0 HX hM HGP ⊢
  unfold maxLen at hAm
  have hfld := nodeField0
  clear ht0 ht1 hd
  by_cases hr : rightL p.data.toList = true
  · rw [if_neg (by rw [hr]; decide)] at hM
    rw [hr] at HPR
    by_cases hkd : kd = 0
    · rw [if_pos hkd] at hM
      have k0 : (kd == 0) = true := by rw [beq_iff_eq]; exact hkd
      clear hkd
      go_enter Tryz.func112, Tryz.ntmps112
      go_wp2_with fail
      refine (HPR.out _).mono ?_
      rintro _ w1 ⟨rfl, hb9⟩
      have HB1 := Lib.hid (HB0.out.trans (hb9.mono HB0.out.size))
      have HX1 := Lib.hid (HX.out.below hb9 HX.out.lt); clear hb9
      have e0 := HX1.out.cell 0
      have e1 := HX1.out.cell 1
      have e2 := HX1.out.cell 2
      have e3 := HX1.out.cell 3
      simp at e0 e1 e2 e3
      subst hM
      rw [if_neg (by first | decide | assumption)] at hPT
      subst hPT
      go_wp2_with fail
      go_ret2
      exact ⟨_, rfl, HO.out.1.below HB1.out, HB1.out⟩
    · rw [if_neg hkd] at hM
      have k0 : (kd == 0) = false := by rw [beq_eq_false_iff_ne]; exact hkd
      have HK0 := Lib.hid hkd; clear hkd
      go_enter Tryz.func112, Tryz.ntmps112
      go_wp2_with fail
      refine (HPR.out _).mono ?_
      rintro _ w1 ⟨rfl, hb9⟩
      have HB1 := Lib.hid (HB0.out.trans (hb9.mono HB0.out.size))
      have HX1 := Lib.hid (HX.out.below hb9 HX.out.lt); clear hb9
      have e0 := HX1.out.cell 0
      have e1 := HX1.out.cell 1
      have e2 := HX1.out.cell 2
      have e3 := HX1.out.cell 3
      simp at e0 e1 e2 e3
      go_wp2_with fail
      refine (HND.out _ HK0.out).mono ?_
      rintro _ w2 ⟨rfl, hb9⟩
      have HB2 := Lib.hid (HB1.out.trans (hb9.mono HB1.out.size))
      have HX2 := Lib.hid (HX1.out.below hb9 HX1.out.lt); clear hb9
      have e0 := HX2.out.cell 0
      have e1 := HX2.out.cell 1
      have e2 := HX2.out.cell 2
      have e3 := HX2.out.cell 3
      simp at e0 e1 e2 e3
      by_cases hrr : RR = 0
      · rw [if_neg (fun h => h hrr)] at hM
        have r0 : (RR == 0) = true := by rw [beq_iff_eq]; exact hrr
        have r0' : (RR != 0) = false := by rw [bne_eq_false_iff_eq]; exact hrr
        clear hrr
        go_wp2_with fail
        refine (HUP.out _).mono ?_
        rintro _ w3 ⟨uv, rfl, us, hb9⟩
        have HB3 := Lib.hid (HB2.out.trans (hb9.mono HB2.out.size))
        have HX3 := Lib.hid (HX2.out.below hb9 HX2.out.lt); clear hb9
        have e0 := HX3.out.cell 0
        have e1 := HX3.out.cell 1
        have e2 := HX3.out.cell 2
        have e3 := HX3.out.cell 3
        simp at e0 e1 e2 e3
        obtain ⟨A, c, rfl, hc1, hc2, hsl⟩ := us
        obtain ⟨U, hU⟩ : ∃ U, upsS p = U := ⟨_, rfl⟩
        rw [hU] at hc1 hsl HPL
        rw [hU]
        clear hU
        unfold maxLen at hc2
        have HSL := Lib.hid hsl; clear hsl
        rcases HPL.out with ⟨rfl, hps⟩ | ⟨hne, hla, hps⟩
        · rw [if_pos hps] at hpar
          subst hpar
          rw [if_neg (by decide)] at hM
          simp only [List.length_nil] at hc1 ⊢
          by_cases hk2 : kd = 2
          · have k2 : (kd == 2) = true := by rw [beq_iff_eq]; exact hk2
            have k2' : (kd != 2) = false := by rw [bne_eq_false_iff_eq]; exact hk2
            rw [if_neg (fun h => h.1 hk2)] at hM
            clear hk2
            go_wp2_with fail
            refine (HGP.out _ HB3.out).mono ?_
            rintro _ w4 ⟨rfl, hb9⟩
            have HB4 := Lib.hid (HB3.out.trans (hb9.mono HB3.out.size))
            have HX4 := Lib.hid (HX3.out.below hb9 HX3.out.lt); clear hb9
            have e0 := HX4.out.cell 0
            have e1 := HX4.out.cell 1
            have e2 := HX4.out.cell 2
            have e3 := HX4.out.cell 3
            simp at e0 e1 e2 e3
            by_cases hgk : gk = 0
            · have g0 : (gk == 0) = true := by rw [beq_iff_eq]; exact hgk
              by_cases hN5 : 500 ≤ N
              · rw [if_pos ⟨hgk, hN5⟩] at hM
                clear hgk
                subst hM
                rw [if_neg (by first | decide | assumption)] at hPT
                subst hPT
                go_wp2_with fail
                go_ret2
                exact ⟨_, rfl, HO.out.1.below HB4.out, HB4.out⟩
              · rw [if_neg (fun h => hN5 h.2)] at hM
                clear hgk
                subst hM
                rw [if_pos rfl] at hPT
                subst hPT
                go_wp2_with fail
                refine (HS.out _ HB4.out).mono ?_
                rintro _ w5 ⟨r, rfl, hr9, hb9⟩
                have HF := Lib.hid (And.intro hr9 hb9); clear hr9 hb9
                go_wp2_with fail
                go_ret2
                exact ⟨_, rfl, own_wide HF.out.1 (Nat.le_trans HO.out.2 HB4.out.size), HB4.out.trans (HF.out.2.mono HB4.out.size)⟩
            · have g0 : (gk == 0) = false := by rw [beq_eq_false_iff_ne]; exact hgk
              rw [if_neg (fun h => hgk h.1)] at hM
              clear hgk
              subst hM
              rw [if_pos rfl] at hPT
              subst hPT
              go_wp2_with fail
              refine (HS.out _ HB4.out).mono ?_
              rintro _ w5 ⟨r, rfl, hr9, hb9⟩
              have HF := Lib.hid (And.intro hr9 hb9); clear hr9 hb9
              go_wp2_with fail
              go_ret2
              exact ⟨_, rfl, own_wide HF.out.1 (Nat.le_trans HO.out.2 HB4.out.size), HB4.out.trans (HF.out.2.mono HB4.out.size)⟩
          · have k2 : (kd == 2) = false := by rw [beq_eq_false_iff_ne]; exact hk2
            have k2' : (kd != 2) = true := by rw [bne_iff_ne]; exact hk2
            by_cases hh : holdsT l p = true
            · rw [if_pos ⟨hk2, hh⟩] at hM
              rw [hh] at HH
              clear hk2
              go_wp2_with fail
              refine (HH.out _ HB3.out).mono ?_
              rintro _ w4 ⟨rfl, hb9⟩
              have HB4 := Lib.hid (HB3.out.trans (hb9.mono HB3.out.size))
              have HX4 := Lib.hid (HX3.out.below hb9 HX3.out.lt); clear hb9
              have e0 := HX4.out.cell 0
              have e1 := HX4.out.cell 1
              have e2 := HX4.out.cell 2
              have e3 := HX4.out.cell 3
              simp at e0 e1 e2 e3
              subst hM
              rw [if_neg (by first | decide | assumption)] at hPT
              subst hPT
              go_wp2_with fail
              go_ret2
              exact ⟨_, rfl, HO.out.1.below HB4.out, HB4.out⟩
            · rw [if_neg (fun h => hh h.2)] at hM
              rw [Bool.not_eq_true] at hh
              rw [hh] at HH
              clear hk2
              go_wp2_with fail
              refine (HH.out _ HB3.out).mono ?_
              rintro _ w4 ⟨rfl, hb9⟩
              have HB4 := Lib.hid (HB3.out.trans (hb9.mono HB3.out.size))
              have HX4 := Lib.hid (HX3.out.below hb9 HX3.out.lt); clear hb9
              have e0 := HX4.out.cell 0
              have e1 := HX4.out.cell 1
              have e2 := HX4.out.cell 2
              have e3 := HX4.out.cell 3
              simp at e0 e1 e2 e3
              go_wp2_with fail
              refine (HGP.out _ HB4.out).mono ?_
              rintro _ w5 ⟨rfl, hb9⟩
              have HB5 := Lib.hid (HB4.out.trans (hb9.mono HB4.out.size))
              have HX5 := Lib.hid (HX4.out.below hb9 HX4.out.lt); clear hb9
              have e0 := HX5.out.cell 0
              have e1 := HX5.out.cell 1
              have e2 := HX5.out.cell 2
              have e3 := HX5.out.cell 3
              simp at e0 e1 e2 e3
              by_cases hgk : gk = 0
              · have g0 : (gk == 0) = true := by rw [beq_iff_eq]; exact hgk
                by_cases hN5 : 500 ≤ N
                · rw [if_pos ⟨hgk, hN5⟩] at hM
                  clear hgk
                  subst hM
                  rw [if_neg (by first | decide | assumption)] at hPT
                  subst hPT
                  go_wp2_with fail
                  go_ret2
                  exact ⟨_, rfl, HO.out.1.below HB5.out, HB5.out⟩
                · rw [if_neg (fun h => hN5 h.2)] at hM
                  clear hgk
                  subst hM
                  rw [if_pos rfl] at hPT
                  subst hPT
                  go_wp2_with fail
                  refine (HS.out _ HB5.out).mono ?_
                  rintro _ w6 ⟨r, rfl, hr9, hb9⟩
                  have HF := Lib.hid (And.intro hr9 hb9); clear hr9 hb9
                  go_wp2_with fail
                  go_ret2
                  exact ⟨_, rfl, own_wide HF.out.1 (Nat.le_trans HO.out.2 HB5.out.size), HB5.out.trans (HF.out.2.mono HB5.out.size)⟩
              · have g0 : (gk == 0) = false := by rw [beq_eq_false_iff_ne]; exact hgk
                rw [if_neg (fun h => hgk h.1)] at hM
                clear hgk
                subst hM
                rw [if_pos rfl] at hPT
                subst hPT
                go_wp2_with fail
                refine (HS.out _ HB5.out).mono ?_
                rintro _ w6 ⟨r, rfl, hr9, hb9⟩
                have HF := Lib.hid (And.intro hr9 hb9); clear hr9 hb9
                go_wp2_with fail
                go_ret2
                exact ⟨_, rfl, own_wide HF.out.1 (Nat.le_trans HO.out.2 HB5.out.size), HB5.out.trans (HF.out.2.mono HB5.out.size)⟩
        · rw [if_neg hps] at hpar
          obtain ⟨m, hm⟩ : ∃ m, U.length = m + 1 := ⟨U.length - 1, by have := List.length_pos_iff.2 hne; omega⟩
          obtain ⟨b, off, rfl, hbb, hcs⟩ := HSL.out (by omega)
          have u0 := hcs m (by omega) 0 (by omega)
          have hum : U[m]'(by omega) = parentS p := by rw [← hla, List.getLast_eq_getElem]; congr 1; omega
          rw [hum] at u0
          simp [bE] at u0
          clear hcs
          rw [hm] at hc1 ⊢
          clear hum hla hne
          have hm1 : (((m + 1 : Nat) : Int)) - 1 = (m : Int) := by omega
          generalize hPG : getT l (parentS p) = PG at hpar
          have HPG := Lib.hid (fun W (hb : Below w.heap.size w W) => by have := HG.out W (parentS p) hb; rw [hPG] at this; exact this)
          clear hPG
          obtain ⟨pk, pm, pt, pd⟩ := PG
          simp only [Nd.c] at HPG hpar
          go_wp2_with fail
          refine (HPG.out _ HB3.out).mono ?_
          rintro _ w4 ⟨rfl, hb9⟩
          have HB4 := Lib.hid (HB3.out.trans (hb9.mono HB3.out.size))
          have HX4 := Lib.hid (HX3.out.below hb9 HX3.out.lt); clear hb9
          have e0 := HX4.out.cell 0
          have e1 := HX4.out.cell 1
          have e2 := HX4.out.cell 2
          have e3 := HX4.out.cell 3
          simp at e0 e1 e2 e3
          by_cases p0 : pk = 0
          · rw [if_pos p0] at hpar
            subst hpar
            rw [if_pos (by decide)] at hM
            have q0 : (pk == 0) = true := by rw [beq_iff_eq]; exact p0
            clear p0
            subst hM
            rw [if_neg (by first | decide | assumption)] at hPT
            subst hPT
            go_wp2_with fail
            go_ret2
            exact ⟨_, rfl, HO.out.1.below HB4.out, HB4.out⟩
          · rw [if_neg p0] at hpar
            have q0 : (pk == 0) = false := by rw [beq_eq_false_iff_ne]; exact p0
            clear p0
            by_cases p2 : pk = 2
            · rw [if_pos p2] at hpar
              subst hpar
              rw [if_neg (by decide)] at hM
              have q2 : (pk == 2) = true := by rw [beq_iff_eq]; exact p2
              have q2' : (pk != 2) = false := by rw [bne_eq_false_iff_eq]; exact p2
              clear p2
              by_cases hk2 : kd = 2
              · have k2 : (kd == 2) = true := by rw [beq_iff_eq]; exact hk2
                have k2' : (kd != 2) = false := by rw [bne_eq_false_iff_eq]; exact hk2
                rw [if_neg (fun h => h.1 hk2)] at hM
                clear hk2
                go_wp2_with fail
                refine (HGP.out _ HB4.out).mono ?_
                rintro _ w5 ⟨rfl, hb9⟩
                have HB5 := Lib.hid (HB4.out.trans (hb9.mono HB4.out.size))
                have HX5 := Lib.hid (HX4.out.below hb9 HX4.out.lt); clear hb9
                have e0 := HX5.out.cell 0
                have e1 := HX5.out.cell 1
                have e2 := HX5.out.cell 2
                have e3 := HX5.out.cell 3
                simp at e0 e1 e2 e3
                by_cases hgk : gk = 0
                · have g0 : (gk == 0) = true := by rw [beq_iff_eq]; exact hgk
                  by_cases hN5 : 500 ≤ N
                  · rw [if_pos ⟨hgk, hN5⟩] at hM
                    clear hgk
                    subst hM
                    rw [if_neg (by first | decide | assumption)] at hPT
                    subst hPT
                    go_wp2_with fail
                    go_ret2
                    exact ⟨_, rfl, HO.out.1.below HB5.out, HB5.out⟩
                  · rw [if_neg (fun h => hN5 h.2)] at hM
                    clear hgk
                    subst hM
                    rw [if_pos rfl] at hPT
                    subst hPT
                    go_wp2_with fail
                    refine (HS.out _ HB5.out).mono ?_
                    rintro _ w6 ⟨r, rfl, hr9, hb9⟩
                    have HF := Lib.hid (And.intro hr9 hb9); clear hr9 hb9
                    go_wp2_with fail
                    go_ret2
                    exact ⟨_, rfl, own_wide HF.out.1 (Nat.le_trans HO.out.2 HB5.out.size), HB5.out.trans (HF.out.2.mono HB5.out.size)⟩
                · have g0 : (gk == 0) = false := by rw [beq_eq_false_iff_ne]; exact hgk
                  rw [if_neg (fun h => hgk h.1)] at hM
                  clear hgk
                  subst hM
                  rw [if_pos rfl] at hPT
                  subst hPT
                  go_wp2_with fail
                  refine (HS.out _ HB5.out).mono ?_
                  rintro _ w6 ⟨r, rfl, hr9, hb9⟩
                  have HF := Lib.hid (And.intro hr9 hb9); clear hr9 hb9
                  go_wp2_with fail
                  go_ret2
                  exact ⟨_, rfl, own_wide HF.out.1 (Nat.le_trans HO.out.2 HB5.out.size), HB5.out.trans (HF.out.2.mono HB5.out.size)⟩
              · have k2 : (kd == 2) = false := by rw [beq_eq_false_iff_ne]; exact hk2
                have k2' : (kd != 2) = true := by rw [bne_iff_ne]; exact hk2
                by_cases hh : holdsT l p = true
                · rw [if_pos ⟨hk2, hh⟩] at hM
                  rw [hh] at HH
                  clear hk2
                  go_wp2_with fail
                  refine (HH.out _ HB4.out).mono ?_
                  rintro _ w5 ⟨rfl, hb9⟩
                  have HB5 := Lib.hid (HB4.out.trans (hb9.mono HB4.out.size))
                  have HX5 := Lib.hid (HX4.out.below hb9 HX4.out.lt); clear hb9
                  have e0 := HX5.out.cell 0
                  have e1 := HX5.out.cell 1
                  have e2 := HX5.out.cell 2
                  have e3 := HX5.out.cell 3
                  simp at e0 e1 e2 e3
                  subst hM
                  rw [if_neg (by first | decide | assumption)] at hPT
                  subst hPT
                  go_wp2_with fail
                  go_ret2
                  exact ⟨_, rfl, HO.out.1.below HB5.out, HB5.out⟩
                · rw [if_neg (fun h => hh h.2)] at hM
                  rw [Bool.not_eq_true] at hh
                  rw [hh] at HH
                  clear hk2
                  go_wp2_with fail
                  refine (HH.out _ HB4.out).mono ?_
                  rintro _ w5 ⟨rfl, hb9⟩
                  have HB5 := Lib.hid (HB4.out.trans (hb9.mono HB4.out.size))
                  have HX5 := Lib.hid (HX4.out.below hb9 HX4.out.lt); clear hb9
                  have e0 := HX5.out.cell 0
                  have e1 := HX5.out.cell 1
                  have e2 := HX5.out.cell 2
                  have e3 := HX5.out.cell 3
                  simp at e0 e1 e2 e3
                  go_wp2_with fail
                  refine (HGP.out _ HB5.out).mono ?_
                  rintro _ w6 ⟨rfl, hb9⟩
                  have HB6 := Lib.hid (HB5.out.trans (hb9.mono HB5.out.size))
                  have HX6 := Lib.hid (HX5.out.below hb9 HX5.out.lt); clear hb9
                  have e0 := HX6.out.cell 0
                  have e1 := HX6.out.cell 1
                  have e2 := HX6.out.cell 2
                  have e3 := HX6.out.cell 3
                  simp at e0 e1 e2 e3
                  by_cases hgk : gk = 0
                  · have g0 : (gk == 0) = true := by rw [beq_iff_eq]; exact hgk
                    by_cases hN5 : 500 ≤ N
                    · rw [if_pos ⟨hgk, hN5⟩] at hM
                      clear hgk
                      subst hM
                      rw [if_neg (by first | decide | assumption)] at hPT
                      subst hPT
                      go_wp2_with fail
                      go_ret2
                      exact ⟨_, rfl, HO.out.1.below HB6.out, HB6.out⟩
                    · rw [if_neg (fun h => hN5 h.2)] at hM
                      clear hgk
                      subst hM
                      rw [if_pos rfl] at hPT
                      subst hPT
                      go_wp2_with fail
                      refine (HS.out _ HB6.out).mono ?_
                      rintro _ w7 ⟨r, rfl, hr9, hb9⟩
                      have HF := Lib.hid (And.intro hr9 hb9); clear hr9 hb9
                      go_wp2_with fail
                      go_ret2
                      exact ⟨_, rfl, own_wide HF.out.1 (Nat.le_trans HO.out.2 HB6.out.size), HB6.out.trans (HF.out.2.mono HB6.out.size)⟩
                  · have g0 : (gk == 0) = false := by rw [beq_eq_false_iff_ne]; exact hgk
                    rw [if_neg (fun h => hgk h.1)] at hM
                    clear hgk
                    subst hM
                    rw [if_pos rfl] at hPT
                    subst hPT
                    go_wp2_with fail
                    refine (HS.out _ HB6.out).mono ?_
                    rintro _ w7 ⟨r, rfl, hr9, hb9⟩
                    have HF := Lib.hid (And.intro hr9 hb9); clear hr9 hb9
                    go_wp2_with fail
                    go_ret2
                    exact ⟨_, rfl, own_wide HF.out.1 (Nat.le_trans HO.out.2 HB6.out.size), HB6.out.trans (HF.out.2.mono HB6.out.size)⟩
            · rw [if_neg p2] at hpar
              subst hpar
              rw [if_pos (by decide)] at hM
              have q2 : (pk == 2) = false := by rw [beq_eq_false_iff_ne]; exact p2
              have q2' : (pk != 2) = true := by rw [bne_iff_ne]; exact p2
              clear p2
              subst hM
              rw [if_neg (by first | decide | assumption)] at hPT
              subst hPT
              go_wp2_with fail
              go_ret2
              exact ⟨_, rfl, HO.out.1.below HB4.out, HB4.out⟩
      · rw [if_pos hrr] at hM
        have r0 : (RR == 0) = false := by rw [beq_eq_false_iff_ne]; exact hrr
        have r0' : (RR != 0) = true := by rw [bne_iff_ne]; exact hrr
        subst hM
        rw [if_neg (by first | decide | assumption)] at hPT
        subst hPT
        go_wp2_with fail
        go_ret2
        exact ⟨_, rfl, HO.out.1.below HB2.out, HB2.out⟩
  · rw [Bool.not_eq_true] at hr
    rw [if_pos hr] at hM
    rw [hr] at HPR
    go_enter Tryz.func112, Tryz.ntmps112
    go_wp2_with fail
    refine (HPR.out _).mono ?_
    rintro _ w1 ⟨rfl, hb9⟩
    have HB1 := Lib.hid (HB0.out.trans (hb9.mono HB0.out.size))
    have HX1 := Lib.hid (HX.out.below hb9 HX.out.lt); clear hb9
    have e0 := HX1.out.cell 0
    have e1 := HX1.out.cell 1
    have e2 := HX1.out.cell 2
    have e3 := HX1.out.cell 3
    simp at e0 e1 e2 e3
    subst hM
    rw [if_neg (by first | decide | assumption)] at hPT
    subst hPT
    go_wp2_with fail
    go_ret2
    exact ⟨_, rfl, HO.out.1.below HB1.out, HB1.out⟩
end Go.Proofs.YtmpgmgjokliceaaGreatDoor
/- The reference's rows of items: Whole (at two rows that hold the same). -/
set_option linter.unusedVariables false
set_option linter.unusedSimpArgs false
namespace Go.Proofs.YtmpgmgjokliceaaGreatDoor
open Go Go.RowKit
open Sw
theorem eq_item (a d : ByteArray) (k m t : Int) (W : World) : (binOp .eql 70 (.agg #[.string a, .int .i64 k, .int .i64 m, .int .u32 t, .string d]) (.agg #[.string a, .int .i64 k, .int .i64 m, .int .u32 t, .string d])).run Tryz.prog W = .ok (.bool true) W := by
  simp [go_sem, Tryz.underlying70, Tryz.underlying37, Tryz.underlying3, Tryz.underlying35, Tryz.underlying9]
theorem eq_node (d : ByteArray) (k m t : Int) (W : World) : (binOp .eql 37 (.agg #[.int .i64 k, .int .i64 m, .int .u32 t, .string d]) (.agg #[.int .i64 k, .int .i64 m, .int .u32 t, .string d])).run Tryz.prog W = .ok (.bool true) W := by
  simp [go_sem, Tryz.underlying37, Tryz.underlying3, Tryz.underlying35, Tryz.underlying9]
set_option maxRecDepth 100000 in
set_option maxHeartbeats 4000000 in
theorem ref16Whole_same (w : World) (u v : Value) (l : List NE) (hu : SlV w 5 eCSN u l) (hv : SlV w 5 eCSN v l) :
    Calls Tryz.prog 11 #[u, v] w fun e w' => e = .returned (.bool true) ∧ Below w.heap.size w w' := by
  obtain ⟨A1, c1, rfl, hc11, hc12, hsl1⟩ := hu
  obtain ⟨A2, c2, rfl, hc21, hc22, hsl2⟩ := hv
  obtain ⟨n, hn⟩ : ∃ n, l.length = n := ⟨_, rfl⟩
  rw [hn] at hc11 hc21 ⊢
  unfold maxLen at hc12 hc22
  have HL := Lib.hid hn; clear hn
  have H1 := Lib.hid hsl1; clear hsl1
  have H2 := Lib.hid hsl2; clear hsl2
  have HEQ := eq_item
  go_enter Tryz.func11, Tryz.ntmps11
  go_wp2_with fail
  go_loopw [13] (fun iv wr => ∃ i : Nat, i ≤ n ∧ iv = .int .i64 i ∧ Below w.heap.size w wr) (fun iv _ => n - (intOf iv).toNat)
  case atStart => exact ⟨0, Nat.zero_le _, rfl, Below.refl _ _⟩
  case round =>
    obtain ⟨i, hi, rfl, hb⟩ := hrel
    by_cases hlt : i < n
    · have hiL : i < l.length := by have := HL.out; omega
      obtain ⟨b1, off1, rfl, hbb1, hcs1⟩ := (H1.out.below hb (Nat.le_refl _)) (by omega)
      obtain ⟨b2, off2, rfl, hbb2, hcs2⟩ := (H2.out.below hb (Nat.le_refl _)) (by omega)
      have c0 := hcs1 i hiL 0 (by omega)
      have c1' := hcs1 i hiL 1 (by omega)
      have c2' := hcs1 i hiL 2 (by omega)
      have c3' := hcs1 i hiL 3 (by omega)
      have c4 := hcs1 i hiL 4 (by omega)
      have d0 := hcs2 i hiL 0 (by omega)
      have d1 := hcs2 i hiL 1 (by omega)
      have d2 := hcs2 i hiL 2 (by omega)
      have d3 := hcs2 i hiL 3 (by omega)
      have d4 := hcs2 i hiL 4 (by omega)
      simp only [eCSN, List.getElem?_cons_succ, List.getElem?_cons_zero, Nat.add_zero] at c0 c1' c2' c3' c4 d0 d1 d2 d3 d4
      clear hcs1 hcs2
      have hi1 : (i : Int) < n := by omega
      obtain ⟨x, hx⟩ : ∃ x, l[i] = x := ⟨_, rfl⟩
      simp only [hx] at c0 c1' c2' c3' c4 d0 d1 d2 d3 d4
      obtain ⟨a, k, m, t, d⟩ := x
      simp only at c0 c1' c2' c3' c4 d0 d1 d2 d3 d4
      clear hx
      have HB := Lib.hid hb; clear hb
      go_wp2_with fail
      go_region
      go_wp2_with fail
      go_roundw
      case rel => exact ⟨i + 1, by omega, by go_num, HB.out.drew⟩
      case measure => simp [intOf]; omega
    · obtain rfl : i = n := by omega
      have HB := Lib.hid hb; clear hb
      go_wp2_with fail
      go_ret
      exact ⟨rfl, HB.out⟩
end Go.Proofs.YtmpgmgjokliceaaGreatDoor
/- tree.Clone; dirfs.emptied: what is at a path and under it goes. -/
set_option linter.unusedVariables false
set_option linter.unusedSimpArgs false
namespace Go.Proofs.YtmpgmgjokliceaaGreatDoor
open Go Go.RowKit
open Sw
set_option maxRecDepth 100000 in
theorem treeClone_any (w : World) (bt bm : Nat) (xs : List NE) (h : TreeAt w bt bm xs) :
    Calls Tryz.prog 59 #[.pointer (some ⟨bt, 0, none⟩)] w fun e w' => ∃ bt' bm', e = .returned (.pointer (some ⟨bt', 0, none⟩)) ∧ TreeAt w' bt' bm' xs ∧ w.heap.size ≤ bt' ∧ w.heap.size ≤ bm' ∧ Below w.heap.size w w' := by
  have HN := Lib.hid (srtCloneSN_any w bm xs h.map)
  have c0 := h.box.cell 0
  simp at c0
  clear h
  go_enter Tryz.func59, Tryz.ntmps59
  go_wp2_with fail
  refine HN.out.mono ?_
  rintro e w1 ⟨bm', rfl, hm, hbm, hb1⟩
  have hba := (Below.refl w1.heap.size w1).alloc (Nat.le_refl _) (.cells #[.pointer (some ⟨bm', 0, none⟩)] 142)
  have HF := Lib.hid (And.intro (Blk.new w1 142 #[.pointer (some ⟨bm', 0, none⟩)]) (And.intro (hm.below hba) (hb1.trans (hba.mono hb1.size))))
  have hsz := hb1.size
  clear hm hb1 hba
  go_wp2_with fail
  go_ret
  exact ⟨_, bm', rfl, ⟨HF.out.1, HF.out.2.1⟩, hsz, hbm, HF.out.2.2⟩
theorem own_turn {W W' : World} {bt bm base : Nat} {xs : List NE} {v : Value} {l : List NE} (h : TreeAt W bt bm xs) (ho : OwnIt W base v l) (hg : W.grownBy W' (some bm)) : OwnIt W' base v l := by
  obtain ⟨u, hb, _⟩ := h.map.row
  exact ho.kept hg (.inr (own_ne_blk ho hb (by decide)))
theorem dropFold_len (L : List NE) : ∀ xs : List NE, (L.foldl (fun ys e => dropT ys e.1) xs).length ≤ xs.length := by
  induction L with
  | nil => intro xs; exact Nat.le_refl _
  | cons e L ih => intro xs; exact Nat.le_trans (ih _) (dropT_len xs e.1)
set_option maxRecDepth 100000 in
set_option maxHeartbeats 4000000 in
theorem emptied_any (w : World) (bt bm : Nat) (xs : List NE) (p : ByteArray) (h : TreeAt w bt bm xs) (hti : TI xs) (hn : xs.length ≤ 1000) (hp : p.size ≤ 90000) :
    Calls Tryz.prog 108 #[.pointer (some ⟨bt, 0, none⟩), .string p] w fun e w' => e = .returned (.tuple #[]) ∧ TreeAt w' bt bm (xs.filter (awayT p)) ∧ w.grownBy w' (some bm) := by
  have HU := Lib.hid (treeUnder_any w bt bm xs p h hn hp)
  have hok : ∀ e ∈ xs, e.1.size ≤ 90000 := fun e he => h.map.ok e he
  have hfold := empty_fold hti p
  obtain ⟨n, hL⟩ : ∃ n, (undT p xs).length = n := ⟨_, rfl⟩
  have hn2 : n ≤ 1000 := by rw [← hL]; exact Nat.le_trans (List.length_filter_le _ _) hn
  obtain ⟨U, hU⟩ : ∃ U, undT p xs = U := ⟨_, rfl⟩
  have hokU : ∀ e ∈ U.reverse, e.1.size ≤ 90000 := fun e he => by rw [List.mem_reverse, ← hU] at he; exact hok e (List.mem_filter.1 he).1
  rw [hU] at HU hL hfold
  have HH := Lib.hid h
  have HL := Lib.hid (And.intro hL (And.intro hfold hokU)); clear hL hfold hokU hok h hU hti
  go_enter Tryz.func108, Tryz.ntmps108
  go_wp2_with fail
  refine HU.out.mono ?_
  rintro e w1 ⟨r, rfl, ho, hb1⟩
  have HR := Lib.hid (slReverseIT_any w1 w.heap.size r n U HL.out.1 (by omega) (by have := ho; unfold OwnIt at this; rw [HL.out.1] at this; exact this))
  obtain ⟨A1, c1, rfl, _, hc1, _⟩ := SlV_of_any ho
  rw [HL.out.1] at HR
  rw [HL.out.1]
  have HB1 := Lib.hid (And.intro hb1 ho); clear hb1 ho HU
  go_wp2_with fail
  refine HR.out.mono ?_
  rintro e w2 ⟨rfl, ho2, hg2⟩
  have hb2 : Below w.heap.size w w2 := HB1.out.1.grown hg2 HB1.out.1.size (fun k hk => by rw [HL.out.1] at *; have := (HB1.out.2.lt k (by rw [HL.out.1]; exact hk)).1; exact this)
  have hO2 : OwnIt w2 w.heap.size (.slice A1 n c1) U.reverse := by unfold OwnIt; rw [List.length_reverse, HL.out.1]; exact ho2
  have H2 := Lib.hid (And.intro (HH.out.below hb2) (And.intro hO2 (grown_below hb2 : w.grownBy w2 (some bm)))); clear hb2 hO2 ho2 hg2 HB1 HR
  go_wp2_with fail
  go_loopw [14] (fun iv wr => ∃ i : Nat, i ≤ n ∧ iv = .int .i64 i ∧ TreeAt wr bt bm ((U.reverse.take i).foldl (fun ys e => dropT ys e.1) xs) ∧ OwnIt wr w.heap.size (.slice A1 n c1) U.reverse ∧ w.grownBy wr (some bm)) (fun iv _ => n - (intOf iv).toNat)
  case atStart => exact ⟨0, Nat.zero_le _, rfl, H2.out.1, H2.out.2.1, H2.out.2.2⟩
  case round =>
    obtain ⟨i, hi, rfl, ht, ho, hg⟩ := hrel
    by_cases hlt : i < n
    · have hiL : i < U.reverse.length := by rw [List.length_reverse, HL.out.1]; exact hlt
      obtain ⟨A', c', ex, -, -, hsl⟩ := ho.slv
      obtain ⟨rfl, -, rfl⟩ : A1 = A' ∧ n = U.reverse.length ∧ c1 = c' := by injection ex with a b c; exact ⟨a, b, c⟩
      obtain ⟨b, off, rfl, hbb, hcs⟩ := hsl (by omega)
      have c0 := hcs i hiL 0 (by omega)
      have c1' := hcs i hiL 1 (by omega)
      have c2 := hcs i hiL 2 (by omega)
      have c3' := hcs i hiL 3 (by omega)
      have c4 := hcs i hiL 4 (by omega)
      simp only [eCSN, List.getElem?_cons_succ, List.getElem?_cons_zero, Nat.add_zero] at c0 c1' c2 c3' c4
      clear hcs hsl ex
      have hi1 : (i : Int) < n := by omega
      have hq := HL.out.2.2 U.reverse[i] (List.getElem_mem hiL)
      have hstep : (U.reverse.take (i + 1)).foldl (fun ys e => dropT ys e.1) xs = dropT ((U.reverse.take i).foldl (fun ys e => dropT ys e.1) xs) U.reverse[i].1 := by rw [List.take_succ_eq_append_getElem hiL, List.foldl_append]; rfl
      have hlen := dropFold_len (U.reverse.take i) xs
      obtain ⟨x, hx⟩ : ∃ x, U.reverse[i] = x := ⟨_, rfl⟩
      simp only [hx] at c0 c1' c2 c3' c4 hq hstep
      clear hx
      have hba := (Below.refl wr.heap.size wr).alloc (Nat.le_refl _) (.cells #[.string x.1, .int .i64 x.2.kind, .int .i64 x.2.mode, .int .u32 x.2.time, .string x.2.data] 70)
      have htw := ht.below hba
      have how := ho.below hba
      have HD := Lib.hid (treeDrop_any _ bt bm _ x.1 htw (by omega) hq)
      have HG := Lib.hid (And.intro (grown_trans hg (grown_below hba)) (And.intro htw (And.intro how hstep)))
      clear htw how hstep hba ht ho hg hlen
      go_wp2_with fail
      refine HD.out.mono ?_
      rintro e w3 ⟨rfl, ht3, hg3⟩
      have H3 := Lib.hid (And.intro ht3 (And.intro (own_turn HG.out.2.1 HG.out.2.2.1 hg3) (grown_trans HG.out.1 hg3))); clear ht3 hg3 HD
      go_wp2_with fail
      go_roundw
      case rel => exact ⟨i + 1, by omega, by go_num, by rw [HG.out.2.2.2]; exact H3.out.1, H3.out.2.1, H3.out.2.2⟩
      case measure => simp [intOf]; omega
    · obtain rfl : i = n := by omega
      rw [List.take_of_length_le (by rw [List.length_reverse, HL.out.1]; omega), HL.out.2.1] at ht
      have HF := Lib.hid (And.intro ht hg); clear ht hg ho
      go_wp2_with fail
      go_end0
      exact ⟨rfl, HF.out.1, HF.out.2⟩
end Go.Proofs.YtmpgmgjokliceaaGreatDoor
