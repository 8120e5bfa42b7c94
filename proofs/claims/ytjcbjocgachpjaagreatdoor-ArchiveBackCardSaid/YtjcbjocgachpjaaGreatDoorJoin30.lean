/- Several texts, joined for the limit of sixty files; each one opens with its own comment. -/
import Derived.Test.YtjcbjocgachpjaaGreatDoorJoin29
import Derived.Test.YtjcbjocgachpjaaGreatDoorJoin18
import Derived.Test.YtjcbjocgachpjaaGreatDoorJoin14
import Derived.Test.YtjcbjocgachpjaaGreatDoorJoin5
/- The reference's rows of items: Put. -/
set_option linter.unusedVariables false
set_option linter.unusedSimpArgs false
namespace Go.Proofs.YtjcbjocgachpjaaGreatDoor
open Go Go.RowKit
open Sw
set_option maxRecDepth 100000 in
set_option maxHeartbeats 8000000 in
theorem ref16Put_any (w : World) (B : Nat) (v : Value) (l : List NE) (p : ByteArray) (n : Nd) (h : OwnIt w B v l) (hB : B ≤ w.heap.size) (hu : Up ordS l) (hpt : Paths l) (hl : l.length ≤ 1000) (hok : ∀ e ∈ l, e.1.size ≤ 90000) (hp : p.size ≤ 90000) (ht0 : 0 ≤ n.time) (ht1 : n.time < 4294967296) (hd : n.data.size ≤ maxLen) :
    Calls Tryz.prog 36 #[v, .string p, .agg n.c] w fun e w' => ∃ r, e = .returned (.tuple #[r, .int .i64 (mayT l p n)]) ∧ OwnIt w' B r (putT l p n) ∧ Below w.heap.size w w' := by
  have HPR := Lib.hid (fun W => refRight_any W p (by omega))
  have HUP := Lib.hid (fun W => refUps_any W p hp)
  have HND := Lib.hid (fun W (hk : ¬ n.kind = 0) => ref14Right_any W n hk ht0 ht1 hd)
  have HG := Lib.hid (fun W q (hb : Below w.heap.size w W) => (show Calls Tryz.prog 69 #[v, .string q] W fun e w' => e = .returned (.agg (getT l q).c) ∧ Below W.heap.size W w' from by
    rw [← refGetT_eq l q hu]; exact ref16Get_any W v l q (h.below hb).slv))
  have HH := Lib.hid (fun W (hb : Below w.heap.size w W) => (show Calls Tryz.prog 70 #[v, .string p] W fun e w' => e = .returned (.bool (holdsT l p)) ∧ Below W.heap.size W w' from by
    rw [holds_any l p hu hpt]; exact ref16Holds_any W v l p (h.below hb).slv hok))
  have HS := Lib.hid (fun W (hb : Below w.heap.size w W) => (show Calls Tryz.prog 71 #[v, .string p, .agg n.c] W fun e w' => ∃ r, e = .returned r ∧ OwnIt w' W.heap.size r (putN ordS p n l) ∧ Below W.heap.size W w' from by
    rw [← setG_eq ordS_ord p n l hu]; exact ref16Set_any W v l p n (h.below hb).slv hl hp hok))
  obtain ⟨A0, c0, rfl, hAc, hAm, -⟩ := SlV_of_any h
  have HO := Lib.hid (And.intro h hB); clear h hB
  have HPL := Lib.hid (parent_last p)
  obtain ⟨N, hN⟩ : ∃ N, l.length = N := ⟨_, rfl⟩
  rw [hN] at HG HH HS HO hAc hl ⊢
  have hM : mayT l p n = if rightL p.data.toList = false then 5 else if n.kind = 0 then 1 else if ¬ nodeR n = 0 then nodeR n else if ¬ parentT l p = 0 then parentT l p else if ¬ n.kind = 2 ∧ holdsT l p = true then 8 else if (getT l p).kind = 0 ∧ 500 ≤ N then 4 else 0 := by unfold mayT; rw [hN]
  have hPT : putT l p n = if mayT l p n = 0 then putN ordS p n l else l := rfl
  generalize mayT l p n = M at hM hPT ⊢
  generalize putT l p n = PT at hPT ⊢
  have HN := Lib.hid hN; clear hN
  have HB0 := Lib.hid (((Below.refl w.heap.size w).alloc (Nat.le_refl _) (.cells n.c 43)))
  have HX := Lib.hid (Blk.new w 43 n.c)
  have hpar : parentT l p = if parentS p = ⟨#[]⟩ then 0 else if (getT l (parentS p)).kind = 0 then 7 else if (getT l (parentS p)).kind = 2 then 0 else 8 := rfl
  generalize hPP : parentT l p = PP at hM hpar; clear hPP
  generalize hRR : nodeR n = RR at hM HND; clear hRR
  generalize hGG : getT l p = GG at hM
  have HGP := Lib.hid (fun W (hb : Below w.heap.size w W) => by have := HG.out W p hb; rw [hGG] at this; exact this)
  clear hGG
  obtain ⟨gk, gm, gt, gd⟩ := GG
  obtain ⟨kd, md, tm, dt⟩ := n
  simp only [Nd.c] at HND HS HB0 HX hM HGP ⊢
  unfold maxLen at hAm
  have hfld := nodeField0
  clear ht0 ht1 hd
  by_cases hr : rightL p.data.toList = true
  · rw [if_neg (by rw [hr]; decide)] at hM
    rw [hr] at HPR
    by_cases hkd : kd = 0
    · rw [if_pos hkd] at hM
      have k0 : (kd == 0) = true := by rw [beq_iff_eq]; exact hkd
      clear hkd
      go_enter Tryz.func36, Tryz.ntmps36
      go_wp2_with fail
      refine (HPR.out _).mono ?_
      rintro _ w1 ⟨rfl, hb9⟩
      have HB1 := Lib.hid (HB0.out.trans (hb9.mono HB0.out.size))
      have HX1 := Lib.hid (HX.out.below hb9 HX.out.lt); clear hb9
      have e0 := HX1.out.cell 0
      have e1 := HX1.out.cell 1
      have e2 := HX1.out.cell 2
      have e3 := HX1.out.cell 3
      simp at e0 e1 e2 e3
      subst hM
      rw [if_neg (by first | decide | assumption)] at hPT
      subst hPT
      go_wp2_with fail
      go_ret2
      exact ⟨_, rfl, HO.out.1.below HB1.out, HB1.out⟩
    · rw [if_neg hkd] at hM
      have k0 : (kd == 0) = false := by rw [beq_eq_false_iff_ne]; exact hkd
      have HK0 := Lib.hid hkd; clear hkd
      go_enter Tryz.func36, Tryz.ntmps36
      go_wp2_with fail
      refine (HPR.out _).mono ?_
      rintro _ w1 ⟨rfl, hb9⟩
      have HB1 := Lib.hid (HB0.out.trans (hb9.mono HB0.out.size))
      have HX1 := Lib.hid (HX.out.below hb9 HX.out.lt); clear hb9
      have e0 := HX1.out.cell 0
      have e1 := HX1.out.cell 1
      have e2 := HX1.out.cell 2
      have e3 := HX1.out.cell 3
      simp at e0 e1 e2 e3
      go_wp2_with fail
      refine (HND.out _ HK0.out).mono ?_
      rintro _ w2 ⟨rfl, hb9⟩
      have HB2 := Lib.hid (HB1.out.trans (hb9.mono HB1.out.size))
      have HX2 := Lib.hid (HX1.out.below hb9 HX1.out.lt); clear hb9
      have e0 := HX2.out.cell 0
      have e1 := HX2.out.cell 1
      have e2 := HX2.out.cell 2
      have e3 := HX2.out.cell 3
      simp at e0 e1 e2 e3
      by_cases hrr : RR = 0
      · rw [if_neg (fun h => h hrr)] at hM
        have r0 : (RR == 0) = true := by rw [beq_iff_eq]; exact hrr
        have r0' : (RR != 0) = false := by rw [bne_eq_false_iff_eq]; exact hrr
        clear hrr
        go_wp2_with fail
        refine (HUP.out _).mono ?_
        rintro _ w3 ⟨uv, rfl, us, hb9⟩
        have HB3 := Lib.hid (HB2.out.trans (hb9.mono HB2.out.size))
        have HX3 := Lib.hid (HX2.out.below hb9 HX2.out.lt); clear hb9
        have e0 := HX3.out.cell 0
        have e1 := HX3.out.cell 1
        have e2 := HX3.out.cell 2
        have e3 := HX3.out.cell 3
        simp at e0 e1 e2 e3
        obtain ⟨A, c, rfl, hc1, hc2, hsl⟩ := us
        obtain ⟨U, hU⟩ : ∃ U, upsS p = U := ⟨_, rfl⟩
        rw [hU] at hc1 hsl HPL
        rw [hU]
        clear hU
        unfold maxLen at hc2
        have HSL := Lib.hid hsl; clear hsl
        rcases HPL.out with ⟨rfl, hps⟩ | ⟨hne, hla, hps⟩
        · rw [if_pos hps] at hpar
          subst hpar
          rw [if_neg (by decide)] at hM
          simp only [List.length_nil] at hc1 ⊢
          by_cases hk2 : kd = 2
          · have k2 : (kd == 2) = true := by rw [beq_iff_eq]; exact hk2
            have k2' : (kd != 2) = false := by rw [bne_eq_false_iff_eq]; exact hk2
            rw [if_neg (fun h => h.1 hk2)] at hM
            clear hk2
            go_wp2_with fail
            refine (HGP.out _ HB3.out).mono ?_
            rintro _ w4 ⟨rfl, hb9⟩
            have HB4 := Lib.hid (HB3.out.trans (hb9.mono HB3.out.size))
            have HX4 := Lib.hid (HX3.out.below hb9 HX3.out.lt); clear hb9
            have e0 := HX4.out.cell 0
            have e1 := HX4.out.cell 1
            have e2 := HX4.out.cell 2
            have e3 := HX4.out.cell 3
            simp at e0 e1 e2 e3
            by_cases hgk : gk = 0
            · have g0 : (gk == 0) = true := by rw [beq_iff_eq]; exact hgk
              by_cases hN5 : 500 ≤ N
              · rw [if_pos ⟨hgk, hN5⟩] at hM
                clear hgk
                subst hM
                rw [if_neg (by first | decide | assumption)] at hPT
                subst hPT
                go_wp2_with fail
                go_ret2
                exact ⟨_, rfl, HO.out.1.below HB4.out, HB4.out⟩
              · rw [if_neg (fun h => hN5 h.2)] at hM
                clear hgk
                subst hM
                rw [if_pos rfl] at hPT
                subst hPT
                go_wp2_with fail
                refine (HS.out _ HB4.out).mono ?_
                rintro _ w5 ⟨r, rfl, hr9, hb9⟩
                have HF := Lib.hid (And.intro hr9 hb9); clear hr9 hb9
                go_wp2_with fail
                go_ret2
                exact ⟨_, rfl, own_wide HF.out.1 (Nat.le_trans HO.out.2 HB4.out.size), HB4.out.trans (HF.out.2.mono HB4.out.size)⟩
            · have g0 : (gk == 0) = false := by rw [beq_eq_false_iff_ne]; exact hgk
              rw [if_neg (fun h => hgk h.1)] at hM
              clear hgk
              subst hM
              rw [if_pos rfl] at hPT
              subst hPT
              go_wp2_with fail
              refine (HS.out _ HB4.out).mono ?_
              rintro _ w5 ⟨r, rfl, hr9, hb9⟩
              have HF := Lib.hid (And.intro hr9 hb9); clear hr9 hb9
              go_wp2_with fail
              go_ret2
              exact ⟨_, rfl, own_wide HF.out.1 (Nat.le_trans HO.out.2 HB4.out.size), HB4.out.trans (HF.out.2.mono HB4.out.size)⟩
          · have k2 : (kd == 2) = false := by rw [beq_eq_false_iff_ne]; exact hk2
            have k2' : (kd != 2) = true := by rw [bne_iff_ne]; exact hk2
            by_cases hh : holdsT l p = true
            · rw [if_pos ⟨hk2, hh⟩] at hM
              rw [hh] at HH
              clear hk2
              go_wp2_with fail
              refine (HH.out _ HB3.out).mono ?_
              rintro _ w4 ⟨rfl, hb9⟩
              have HB4 := Lib.hid (HB3.out.trans (hb9.mono HB3.out.size))
              have HX4 := Lib.hid (HX3.out.below hb9 HX3.out.lt); clear hb9
              have e0 := HX4.out.cell 0
              have e1 := HX4.out.cell 1
              have e2 := HX4.out.cell 2
              have e3 := HX4.out.cell 3
              simp at e0 e1 e2 e3
              subst hM
              rw [if_neg (by first | decide | assumption)] at hPT
              subst hPT
              go_wp2_with fail
              go_ret2
              exact ⟨_, rfl, HO.out.1.below HB4.out, HB4.out⟩
            · rw [if_neg (fun h => hh h.2)] at hM
              rw [Bool.not_eq_true] at hh
              rw [hh] at HH
              clear hk2
              go_wp2_with fail
              refine (HH.out _ HB3.out).mono ?_
              rintro _ w4 ⟨rfl, hb9⟩
              have HB4 := Lib.hid (HB3.out.trans (hb9.mono HB3.out.size))
              have HX4 := Lib.hid (HX3.out.below hb9 HX3.out.lt); clear hb9
              have e0 := HX4.out.cell 0
              have e1 := HX4.out.cell 1
              have e2 := HX4.out.cell 2
              have e3 := HX4.out.cell 3
              simp at e0 e1 e2 e3
              go_wp2_with fail
              refine (HGP.out _ HB4.out).mono ?_
              rintro _ w5 ⟨rfl, hb9⟩
              have HB5 := Lib.hid (HB4.out.trans (hb9.mono HB4.out.size))
              have HX5 := Lib.hid (HX4.out.below hb9 HX4.out.lt); clear hb9
              have e0 := HX5.out.cell 0
              have e1 := HX5.out.cell 1
              have e2 := HX5.out.cell 2
              have e3 := HX5.out.cell 3
              simp at e0 e1 e2 e3
              by_cases hgk : gk = 0
              · have g0 : (gk == 0) = true := by rw [beq_iff_eq]; exact hgk
                by_cases hN5 : 500 ≤ N
                · rw [if_pos ⟨hgk, hN5⟩] at hM
                  clear hgk
                  subst hM
                  rw [if_neg (by first | decide | assumption)] at hPT
                  subst hPT
                  go_wp2_with fail
                  go_ret2
                  exact ⟨_, rfl, HO.out.1.below HB5.out, HB5.out⟩
                · rw [if_neg (fun h => hN5 h.2)] at hM
                  clear hgk
                  subst hM
                  rw [if_pos rfl] at hPT
                  subst hPT
                  go_wp2_with fail
                  refine (HS.out _ HB5.out).mono ?_
                  rintro _ w6 ⟨r, rfl, hr9, hb9⟩
                  have HF := Lib.hid (And.intro hr9 hb9); clear hr9 hb9
                  go_wp2_with fail
                  go_ret2
                  exact ⟨_, rfl, own_wide HF.out.1 (Nat.le_trans HO.out.2 HB5.out.size), HB5.out.trans (HF.out.2.mono HB5.out.size)⟩
              · have g0 : (gk == 0) = false := by rw [beq_eq_false_iff_ne]; exact hgk
                rw [if_neg (fun h => hgk h.1)] at hM
                clear hgk
                subst hM
                rw [if_pos rfl] at hPT
                subst hPT
                go_wp2_with fail
                refine (HS.out _ HB5.out).mono ?_
                rintro _ w6 ⟨r, rfl, hr9, hb9⟩
                have HF := Lib.hid (And.intro hr9 hb9); clear hr9 hb9
                go_wp2_with fail
                go_ret2
                exact ⟨_, rfl, own_wide HF.out.1 (Nat.le_trans HO.out.2 HB5.out.size), HB5.out.trans (HF.out.2.mono HB5.out.size)⟩
        · rw [if_neg hps] at hpar
          obtain ⟨m, hm⟩ : ∃ m, U.length = m + 1 := ⟨U.length - 1, by have := List.length_pos_iff.2 hne; omega⟩
          obtain ⟨b, off, rfl, hbb, hcs⟩ := HSL.out (by omega)
          have u0 := hcs m (by omega) 0 (by omega)
          have hum : U[m]'(by omega) = parentS p := by rw [← hla, List.getLast_eq_getElem]; congr 1; omega
          rw [hum] at u0
          simp [bE] at u0
          clear hcs
          rw [hm] at hc1 ⊢
          clear hum hla hne
          have hm1 : (((m + 1 : Nat) : Int)) - 1 = (m : Int) := by omega
          generalize hPG : getT l (parentS p) = PG at hpar
          have HPG := Lib.hid (fun W (hb : Below w.heap.size w W) => by have := HG.out W (parentS p) hb; rw [hPG] at this; exact this)
          clear hPG
          obtain ⟨pk, pm, pt, pd⟩ := PG
          simp only [Nd.c] at HPG hpar
          go_wp2_with fail
          refine (HPG.out _ HB3.out).mono ?_
          rintro _ w4 ⟨rfl, hb9⟩
          have HB4 := Lib.hid (HB3.out.trans (hb9.mono HB3.out.size))
          have HX4 := Lib.hid (HX3.out.below hb9 HX3.out.lt); clear hb9
          have e0 := HX4.out.cell 0
          have e1 := HX4.out.cell 1
          have e2 := HX4.out.cell 2
          have e3 := HX4.out.cell 3
          simp at e0 e1 e2 e3
          by_cases p0 : pk = 0
          · rw [if_pos p0] at hpar
            subst hpar
            rw [if_pos (by decide)] at hM
            have q0 : (pk == 0) = true := by rw [beq_iff_eq]; exact p0
            clear p0
            subst hM
            rw [if_neg (by first | decide | assumption)] at hPT
            subst hPT
            go_wp2_with fail
            go_ret2
            exact ⟨_, rfl, HO.out.1.below HB4.out, HB4.out⟩
          · rw [if_neg p0] at hpar
            have q0 : (pk == 0) = false := by rw [beq_eq_false_iff_ne]; exact p0
            clear p0
            by_cases p2 : pk = 2
            · rw [if_pos p2] at hpar
              subst hpar
              rw [if_neg (by decide)] at hM
              have q2 : (pk == 2) = true := by rw [beq_iff_eq]; exact p2
              have q2' : (pk != 2) = false := by rw [bne_eq_false_iff_eq]; exact p2
              clear p2
              by_cases hk2 : kd = 2
              · have k2 : (kd == 2) = true := by rw [beq_iff_eq]; exact hk2
                have k2' : (kd != 2) = false := by rw [bne_eq_false_iff_eq]; exact hk2
                rw [if_neg (fun h => h.1 hk2)] at hM
                clear hk2
                go_wp2_with fail
                refine (HGP.out _ HB4.out).mono ?_
                rintro _ w5 ⟨rfl, hb9⟩
                have HB5 := Lib.hid (HB4.out.trans (hb9.mono HB4.out.size))
                have HX5 := Lib.hid (HX4.out.below hb9 HX4.out.lt); clear hb9
                have e0 := HX5.out.cell 0
                have e1 := HX5.out.cell 1
                have e2 := HX5.out.cell 2
                have e3 := HX5.out.cell 3
                simp at e0 e1 e2 e3
                by_cases hgk : gk = 0
                · have g0 : (gk == 0) = true := by rw [beq_iff_eq]; exact hgk
                  by_cases hN5 : 500 ≤ N
                  · rw [if_pos ⟨hgk, hN5⟩] at hM
                    clear hgk
                    subst hM
                    rw [if_neg (by first | decide | assumption)] at hPT
                    subst hPT
                    go_wp2_with fail
                    go_ret2
                    exact ⟨_, rfl, HO.out.1.below HB5.out, HB5.out⟩
                  · rw [if_neg (fun h => hN5 h.2)] at hM
                    clear hgk
                    subst hM
                    rw [if_pos rfl] at hPT
                    subst hPT
                    go_wp2_with fail
                    refine (HS.out _ HB5.out).mono ?_
                    rintro _ w6 ⟨r, rfl, hr9, hb9⟩
                    have HF := Lib.hid (And.intro hr9 hb9); clear hr9 hb9
                    go_wp2_with fail
                    go_ret2
                    exact ⟨_, rfl, own_wide HF.out.1 (Nat.le_trans HO.out.2 HB5.out.size), HB5.out.trans (HF.out.2.mono HB5.out.size)⟩
                · have g0 : (gk == 0) = false := by rw [beq_eq_false_iff_ne]; exact hgk
                  rw [if_neg (fun h => hgk h.1)] at hM
                  clear hgk
                  subst hM
                  rw [if_pos rfl] at hPT
                  subst hPT
                  go_wp2_with fail
                  refine (HS.out _ HB5.out).mono ?_
                  rintro _ w6 ⟨r, rfl, hr9, hb9⟩
                  have HF := Lib.hid (And.intro hr9 hb9); clear hr9 hb9
                  go_wp2_with fail
                  go_ret2
                  exact ⟨_, rfl, own_wide HF.out.1 (Nat.le_trans HO.out.2 HB5.out.size), HB5.out.trans (HF.out.2.mono HB5.out.size)⟩
              · have k2 : (kd == 2) = false := by rw [beq_eq_false_iff_ne]; exact hk2
                have k2' : (kd != 2) = true := by rw [bne_iff_ne]; exact hk2
                by_cases hh : holdsT l p = true
                · rw [if_pos ⟨hk2, hh⟩] at hM
                  rw [hh] at HH
                  clear hk2
                  go_wp2_with fail
                  refine (HH.out _ HB4.out).mono ?_
                  rintro _ w5 ⟨rfl, hb9⟩
                  have HB5 := Lib.hid (HB4.out.trans (hb9.mono HB4.out.size))
                  have HX5 := Lib.hid (HX4.out.below hb9 HX4.out.lt); clear hb9
                  have e0 := HX5.out.cell 0
                  have e1 := HX5.out.cell 1
                  have e2 := HX5.out.cell 2
                  have e3 := HX5.out.cell 3
                  simp at e0 e1 e2 e3
                  subst hM
                  rw [if_neg (by first | decide | assumption)] at hPT
                  subst hPT
                  go_wp2_with fail
                  go_ret2
                  exact ⟨_, rfl, HO.out.1.below HB5.out, HB5.out⟩
                · rw [if_neg (fun h => hh h.2)] at hM
                  rw [Bool.not_eq_true] at hh
                  rw [hh] at HH
                  clear hk2
                  go_wp2_with fail
                  refine (HH.out _ HB4.out).mono ?_
                  rintro _ w5 ⟨rfl, hb9⟩
                  have HB5 := Lib.hid (HB4.out.trans (hb9.mono HB4.out.size))
                  have HX5 := Lib.hid (HX4.out.below hb9 HX4.out.lt); clear hb9
                  have e0 := HX5.out.cell 0
                  have e1 := HX5.out.cell 1
                  have e2 := HX5.out.cell 2
                  have e3 := HX5.out.cell 3
                  simp at e0 e1 e2 e3
                  go_wp2_with fail
                  refine (HGP.out _ HB5.out).mono ?_
                  rintro _ w6 ⟨rfl, hb9⟩
                  have HB6 := Lib.hid (HB5.out.trans (hb9.mono HB5.out.size))
                  have HX6 := Lib.hid (HX5.out.below hb9 HX5.out.lt); clear hb9
                  have e0 := HX6.out.cell 0
                  have e1 := HX6.out.cell 1
                  have e2 := HX6.out.cell 2
                  have e3 := HX6.out.cell 3
                  simp at e0 e1 e2 e3
                  by_cases hgk : gk = 0
                  · have g0 : (gk == 0) = true := by rw [beq_iff_eq]; exact hgk
                    by_cases hN5 : 500 ≤ N
                    · rw [if_pos ⟨hgk, hN5⟩] at hM
                      clear hgk
                      subst hM
                      rw [if_neg (by first | decide | assumption)] at hPT
                      subst hPT
                      go_wp2_with fail
                      go_ret2
                      exact ⟨_, rfl, HO.out.1.below HB6.out, HB6.out⟩
                    · rw [if_neg (fun h => hN5 h.2)] at hM
                      clear hgk
                      subst hM
                      rw [if_pos rfl] at hPT
                      subst hPT
                      go_wp2_with fail
                      refine (HS.out _ HB6.out).mono ?_
                      rintro _ w7 ⟨r, rfl, hr9, hb9⟩
                      have HF := Lib.hid (And.intro hr9 hb9); clear hr9 hb9
                      go_wp2_with fail
                      go_ret2
                      exact ⟨_, rfl, own_wide HF.out.1 (Nat.le_trans HO.out.2 HB6.out.size), HB6.out.trans (HF.out.2.mono HB6.out.size)⟩
                  · have g0 : (gk == 0) = false := by rw [beq_eq_false_iff_ne]; exact hgk
                    rw [if_neg (fun h => hgk h.1)] at hM
                    clear hgk
                    subst hM
                    rw [if_pos rfl] at hPT
                    subst hPT
                    go_wp2_with fail
                    refine (HS.out _ HB6.out).mono ?_
                    rintro _ w7 ⟨r, rfl, hr9, hb9⟩
                    have HF := Lib.hid (And.intro hr9 hb9); clear hr9 hb9
                    go_wp2_with fail
                    go_ret2
                    exact ⟨_, rfl, own_wide HF.out.1 (Nat.le_trans HO.out.2 HB6.out.size), HB6.out.trans (HF.out.2.mono HB6.out.size)⟩
            · rw [if_neg p2] at hpar
              subst hpar
              rw [if_pos (by decide)] at hM
              have q2 : (pk == 2) = false := by rw [beq_eq_false_iff_ne]; exact p2
              have q2' : (pk != 2) = true := by rw [bne_iff_ne]; exact p2
              clear p2
              subst hM
              rw [if_neg (by first | decide | assumption)] at hPT
              subst hPT
              go_wp2_with fail
              go_ret2
              exact ⟨_, rfl, HO.out.1.below HB4.out, HB4.out⟩
      · rw [if_pos hrr] at hM
        have r0 : (RR == 0) = false := by rw [beq_eq_false_iff_ne]; exact hrr
        have r0' : (RR != 0) = true := by rw [bne_iff_ne]; exact hrr
        subst hM
        rw [if_neg (by first | decide | assumption)] at hPT
        subst hPT
        go_wp2_with fail
        go_ret2
        exact ⟨_, rfl, HO.out.1.below HB2.out, HB2.out⟩
  · rw [Bool.not_eq_true] at hr
    rw [if_pos hr] at hM
    rw [hr] at HPR
    go_enter Tryz.func36, Tryz.ntmps36
    go_wp2_with fail
    refine (HPR.out _).mono ?_
    rintro _ w1 ⟨rfl, hb9⟩
    have HB1 := Lib.hid (HB0.out.trans (hb9.mono HB0.out.size))
    have HX1 := Lib.hid (HX.out.below hb9 HX.out.lt); clear hb9
    have e0 := HX1.out.cell 0
    have e1 := HX1.out.cell 1
    have e2 := HX1.out.cell 2
    have e3 := HX1.out.cell 3
    simp at e0 e1 e2 e3
    subst hM
    rw [if_neg (by first | decide | assumption)] at hPT
    subst hPT
    go_wp2_with fail
    go_ret2
    exact ⟨_, rfl, HO.out.1.below HB1.out, HB1.out⟩
end Go.Proofs.YtjcbjocgachpjaaGreatDoor
/- The reference's rows of items: Whole (at two rows that hold the same). -/
set_option linter.unusedVariables false
set_option linter.unusedSimpArgs false
namespace Go.Proofs.YtjcbjocgachpjaaGreatDoor
open Go Go.RowKit
open Sw
end Go.Proofs.YtjcbjocgachpjaaGreatDoor
/- tree.Clone; dirfs.emptied: what is at a path and under it goes. -/
set_option linter.unusedVariables false
set_option linter.unusedSimpArgs false
namespace Go.Proofs.YtjcbjocgachpjaaGreatDoor
open Go Go.RowKit
open Sw
end Go.Proofs.YtjcbjocgachpjaaGreatDoor
/- dirfs: a live directory, its step. -/
set_option linter.unusedVariables false
set_option linter.unusedSimpArgs false
namespace Sw
/-- a live directory's state -/
structure DS where
  room : Int
  fuse : Int
  ops : Int
  off : Bool
  xs : List NE
structure DS.Ok (s : DS) (k : Nat) : Prop where
  f0 : -1 ≤ s.fuse
  f1 : s.fuse ≤ 9223372036854775807
  o0 : 0 ≤ s.ops
  o1 : s.ops ≤ k
end Sw
namespace Go.Proofs.YtjcbjocgachpjaaGreatDoor
open Go Go.RowKit
open Sw
theorem _root_.Go.Proofs.YtjcbjocgachpjaaGreatDoor.TreeAt.far {W W' : World} {bt bm g : Nat} {xs : List NE} {t : TypeId} {cs : Array Value} (h : TreeAt W bt bm xs) (hB : Blk W g t cs) (h1 : 92 ≠ t) (h2 : 127 ≠ t) (h3 : 135 ≠ t) (hg : W.grownBy W' (some g)) : TreeAt W' bt bm xs := by
  obtain ⟨v, hb, ho⟩ := h.map.row
  refine ⟨h.box.grown hg (by simpa using Blk.other h.box hB h1), ⟨v, hb.grown hg (by simpa using Blk.other hb hB h2), ho.kept hg (.inr (own_ne_blk ho hB h3))⟩, h.map.up, h.map.ok⟩
end Go.Proofs.YtjcbjocgachpjaaGreatDoor
/- dirfs: fits, Put, Remove, Clear. -/
set_option linter.unusedVariables false
set_option linter.unusedSimpArgs false
namespace Sw
open Go.Proofs.YtjcbjocgachpjaaGreatDoor (bytesT)
end Sw
namespace Go.Proofs.YtjcbjocgachpjaaGreatDoor
open Go Go.RowKit
open Sw
end Go.Proofs.YtjcbjocgachpjaaGreatDoor
/- dirfs: Remove, Clear. -/
set_option linter.unusedVariables false
set_option linter.unusedSimpArgs false
namespace Sw
open Go.Proofs.YtjcbjocgachpjaaGreatDoor (awayT)
end Sw
namespace Go.Proofs.YtjcbjocgachpjaaGreatDoor
open Go Go.RowKit
open Sw
end Go.Proofs.YtjcbjocgachpjaaGreatDoor
/- dirfs: Graft. -/
set_option linter.unusedVariables false
set_option linter.unusedSimpArgs false
namespace Sw
open Go.Proofs.YtjcbjocgachpjaaGreatDoor (awayT putT_len)
/-- entries are put, one behind the other, until one may not be -/
def putsT : List NE → List NE → Int × List NE
  | ys, [] => (0, ys)
  | ys, x :: r => if mayT ys x.1 x.2 = 0 then putsT (putT ys x.1 x.2) r else (mayT ys x.1 x.2, ys)
theorem putsT_step (ys : List NE) (L : List NE) (i : Nat) (h : i < L.length) : putsT ys (L.drop i) = if mayT ys L[i].1 L[i].2 = 0 then putsT (putT ys L[i].1 L[i].2) (L.drop (i + 1)) else (mayT ys L[i].1 L[i].2, ys) := by
  rw [List.drop_eq_getElem_cons h]
  rfl
theorem putsT_ti : ∀ (L : List NE) {ys : List NE}, TI ys → TI (putsT ys L).2
  | [], ys, h => h
  | x :: L, ys, h => by
    unfold putsT
    split
    · exact putsT_ti L (h.putT x.1 x.2)
    · exact h
end Sw
namespace Go.Proofs.YtjcbjocgachpjaaGreatDoor
open Go Go.RowKit
open Sw
end Go.Proofs.YtjcbjocgachpjaaGreatDoor
/- A path that is renamed: plain. -/
set_option linter.unusedVariables false
set_option linter.unusedSimpArgs false
namespace Sw
open Go
open Go.Proofs.YtjcbjocgachpjaaGreatDoor (partsS awayT undT)
theorem jnL_append : ∀ (a b : List (List UInt8)), a ≠ [] → b ≠ [] → jnL (a ++ b) = jnL a ++ 47 :: jnL b
  | [], _, h, _ => absurd rfl h
  | [x], b, _, hb => by
    rw [List.singleton_append, jnL_cons x b hb]
    rfl
  | x :: y :: a, b, _, hb => by
    rw [List.cons_append, jnL_cons x ((y :: a) ++ b) (by simp), jnL_append (y :: a) b (by simp) hb, jnL_cons x (y :: a) (by simp), List.append_assoc]
    rfl
theorem datL_spS (s : ByteArray) : datL (spS s) = spL s.data.toList := by
  unfold spS datL
  rw [List.map_map]
  conv => rhs; rw [← List.map_id (spL s.data.toList)]
  refine List.map_congr_left fun x _ => ?_
  exact data_mkB x
theorem spS_sl (s : ByteArray) : ∀ x ∈ datL (spS s), (47 : UInt8) ∉ x := by rw [datL_spS]; exact spL_no _
theorem datL_app (a b : List ByteArray) : datL (a ++ b) = datL a ++ datL b := by unfold datL; rw [List.map_append]
theorem datL_ne {l : List ByteArray} (h : l ≠ []) : datL l ≠ [] := by
  intro e
  exact h (List.map_eq_nil_iff.1 (show l.map _ = [] from e))
/-- the parts of a text of some bytes -/
theorem spS_of {s : ByteArray} {l : List ByteArray} (h : l ≠ []) (hn : ∀ x ∈ datL l, (47 : UInt8) ∉ x) (hs : s.data.toList = jnL (datL l)) : spS s = l := by
  have h1 : datL (spS s) = datL l := by rw [datL_spS, hs, spL_jnL _ (datL_ne h) hn]
  have hinj : ∀ a b : List ByteArray, datL a = datL b → a = b := by
    intro a
    induction a with
    | nil => intro b hb; cases b with
      | nil => rfl
      | cons y b => cases hb
    | cons x a ih => intro b hb; cases b with
      | nil => cases hb
      | cons y b =>
        have h0 := List.cons.inj (show x.data.toList :: datL a = y.data.toList :: datL b from hb)
        rw [dat_inj h0.1, ih b h0.2]
  exact hinj _ _ h1
/-- what is renamed of a path -/
def mvS (fr tt q : ByteArray) : ByteArray := if q = fr ∨ inS (upsS q) fr = true then tt ++ q.extract fr.size q.size else q
theorem mv_at {fr tt q : ByteArray} (h : q = fr ∨ fr ∈ upsS q) : mvS fr tt q = tt ++ q.extract fr.size q.size := by
  unfold mvS
  rw [if_pos (h.imp id (inS_iff _ _).2)]
theorem mv_away {fr tt q : ByteArray} (h : ¬ q = fr) (h2 : ¬ fr ∈ upsS q) : mvS fr tt q = q := by
  unfold mvS
  rw [if_neg (fun h' => h'.elim h (fun h3 => h2 ((inS_iff _ _).1 h3)))]
theorem right_of_ups {q u : ByteArray} (h : u ∈ upsS q) : rightL q.data.toList = true := by
  obtain ⟨k, h1, h2, _, _⟩ := ups_mem h
  cases hr : rightL q.data.toList with
  | true => rfl
  | false => rw [partsS_not hr] at h2; simp at h2
theorem ups_take {q u : ByteArray} (h : u ∈ upsS q) : (spS u).length < (spS q).length ∧ spS u = (spS q).take (spS u).length := by
  obtain ⟨k, h1, h2, h3, h4⟩ := ups_mem h
  have hr := right_of_ups h
  rw [partsS_right h4, partsS_right hr] at h3
  rw [partsS_right hr] at h2
  have hl : (spS u).length = k := by rw [h3, List.length_take]; omega
  exact ⟨by omega, by rw [hl]; exact h3⟩
theorem app_data (a b : ByteArray) : (a ++ b).data.toList = a.data.toList ++ b.data.toList := by simp
/-- the parts of a path that was renamed -/
theorem mv_parts {fr tt q : ByteArray} (h : q = fr ∨ fr ∈ upsS q) : spS (mvS fr tt q) = spS tt ++ (spS q).drop (spS fr).length := by
  rw [mv_at h]
  rcases h with rfl | h
  · have e : q.extract q.size q.size = ⟨#[]⟩ := dat_inj (by rw [ext_drop]; simp)
    rw [e, List.drop_length, List.append_nil]
    congr 1
    exact dat_inj (by rw [app_data]; simp)
  · obtain ⟨hlt, htk⟩ := ups_take h
    have hne : (spS q).drop (spS fr).length ≠ [] := fun e => by have := congrArg List.length e; simp at this; omega
    have hq : q.data.toList = fr.data.toList ++ 47 :: jnL (datL ((spS q).drop (spS fr).length)) := by
      have h1 : jnL (datL (spS q)) = q.data.toList := by rw [datL_spS, jnL_spL]
      have h2 : jnL (datL (spS fr)) = fr.data.toList := by rw [datL_spS, jnL_spL]
      rw [← h1, ← h2]
      conv => lhs; rw [← List.take_append_drop (spS fr).length (spS q)]
      rw [datL_app, ← htk, jnL_append _ _ (datL_ne (spS_ne fr)) (datL_ne hne)]
    refine spS_of (by simp [spS_ne]) (fun x hx => ?_) ?_
    · rw [datL_app] at hx
      rcases List.mem_append.1 hx with hx | hx
      · exact spS_sl tt x hx
      · refine spS_sl q x ?_
        obtain ⟨y, hy, rfl⟩ := List.mem_map.1 (show x ∈ ((spS q).drop (spS fr).length).map _ from hx)
        exact List.mem_map.2 ⟨y, List.mem_of_mem_drop hy, rfl⟩
    · rw [app_data, ext_drop, hq]
      have hfs : fr.size = fr.data.toList.length := by simp
      rw [hfs, List.drop_left, datL_app, jnL_append _ _ (datL_ne (spS_ne tt)) (datL_ne hne)]
      congr 1
      rw [datL_spS, jnL_spL]
theorem mv_self (fr tt : ByteArray) : mvS fr tt fr = tt := by
  rw [mv_at (.inl rfl)]
  have e : fr.extract fr.size fr.size = ⟨#[]⟩ := dat_inj (by rw [ext_drop]; simp)
  rw [e]
  exact dat_inj (by rw [app_data]; simp)
theorem spS_inj {a b : ByteArray} (h : spS a = spS b) : a = b := dat_inj (by
  rw [← jnL_spL a.data.toList, ← jnL_spL b.data.toList, ← datL_spS, ← datL_spS, h])
/-- the parts of what is at a path or under it -/
theorem at_take {fr q : ByteArray} (h : q = fr ∨ fr ∈ upsS q) : spS q = spS fr ++ (spS q).drop (spS fr).length := by
  rcases h with rfl | h
  · rw [List.drop_length, List.append_nil]
  · conv => lhs; rw [← List.take_append_drop (spS fr).length (spS q)]
    rw [← (ups_take h).2]
theorem mv_inj {fr tt q r : ByteArray} (hq : q = fr ∨ fr ∈ upsS q) (hr : r = fr ∨ fr ∈ upsS r) (h : mvS fr tt q = mvS fr tt r) : q = r := by
  have h1 := congrArg spS h
  rw [mv_parts hq, mv_parts hr, List.append_cancel_left_eq] at h1
  exact spS_inj (by rw [at_take hq, at_take hr, h1])
theorem ups_iff {u q : ByteArray} (hu : rightL u.data.toList = true) (hq : rightL q.data.toList = true) : u ∈ upsS q ↔ (spS u).length < (spS q).length ∧ spS u = (spS q).take (spS u).length := by
  refine ⟨ups_take, fun h => ?_⟩
  have h0 : 0 < (spS u).length := List.length_pos_iff.2 (spS_ne u)
  exact ups_of (k := (spS u).length) h0 (by rw [partsS_right hq]; exact h.1) (by rw [partsS_right hu, partsS_right hq]; exact h.2)
/-- renamed, a path is at the new place or under it -/
theorem mv_under {fr tt q : ByteArray} (h : q = fr ∨ fr ∈ upsS q) (ht : rightL tt.data.toList = true) (hm : rightL (mvS fr tt q).data.toList = true) : mvS fr tt q = tt ∨ tt ∈ upsS (mvS fr tt q) := by
  rcases h with rfl | h
  · exact .inl (mv_self _ _)
  · right
    rw [ups_iff ht hm, mv_parts (.inr h)]
    have := (ups_take h).1
    exact ⟨by simp; omega, by rw [List.take_left]⟩
theorem mv_ups {fr tt q r : ByteArray} (hq : q = fr ∨ fr ∈ upsS q) (hr : r = fr ∨ fr ∈ upsS r) (q1 : rightL q.data.toList = true) (r1 : rightL r.data.toList = true) (q2 : rightL (mvS fr tt q).data.toList = true) (r2 : rightL (mvS fr tt r).data.toList = true) :
    mvS fr tt q ∈ upsS (mvS fr tt r) ↔ q ∈ upsS r := by
  rw [ups_iff q2 r2, ups_iff q1 r1, mv_parts hq, mv_parts hr]
  have e1 := at_take hq
  have e2 := at_take hr
  generalize (spS q).drop (spS fr).length = a at *
  generalize (spS r).drop (spS fr).length = b at *
  rw [e1, e2]
  simp only [List.length_append]
  have key : ∀ X : List ByteArray, (X ++ b).take (X.length + a.length) = X ++ b.take a.length := fun X => by
    rw [List.take_append, List.take_of_length_le (by omega), show X.length + a.length - X.length = a.length by omega]
  rw [key, key, List.append_cancel_left_eq, List.append_cancel_left_eq]
  constructor
  · rintro ⟨h1, h2⟩; exact ⟨by omega, h2⟩
  · rintro ⟨h1, h2⟩; exact ⟨by omega, h2⟩
theorem parentS_sp {p : ByteArray} (h : rightL p.data.toList = true) : parentS p = mkB (jnL (datL (spS p).dropLast)) := by
  unfold parentS
  rw [partsS_right h]
theorem spS_parent {p : ByteArray} (h : rightL p.data.toList = true) (h2 : 2 ≤ (spS p).length) : spS (parentS p) = (spS p).dropLast := by
  rw [parentS_sp h]
  refine spS_of (fun e => by have := congrArg List.length e; simp at this; omega) (fun x hx => ?_) (by rw [data_mkB])
  obtain ⟨y, hy, rfl⟩ := List.mem_map.1 (show x ∈ ((spS p).dropLast).map _ from hx)
  exact spS_sl p _ (List.mem_map.2 ⟨y, List.dropLast_subset _ hy, rfl⟩)
/-- the parent of a path that was renamed -/
theorem mv_parent {fr tt q : ByteArray} (h : fr ∈ upsS q) (hm : rightL (mvS fr tt q).data.toList = true) : parentS (mvS fr tt q) = mvS fr tt (parentS q) ∧ (parentS q = fr ∨ fr ∈ upsS (parentS q)) := by
  obtain ⟨_, hpq, hor⟩ := ups_parent h
  have hor' : parentS q = fr ∨ fr ∈ upsS (parentS q) := hor.imp Eq.symm id
  refine ⟨?_, hor'⟩
  have hr := right_of_ups h
  have hl := (ups_take h).1
  have h0 : 0 < (spS fr).length := List.length_pos_iff.2 (spS_ne fr)
  have ht0 : 0 < (spS tt).length := List.length_pos_iff.2 (spS_ne tt)
  have hp2 : 2 ≤ (spS (mvS fr tt q)).length := by rw [mv_parts (.inr h)]; simp; omega
  refine spS_inj ?_
  rw [spS_parent hm hp2, mv_parts hor', spS_parent hr (by omega), mv_parts (.inr h)]
  rw [List.dropLast_append_of_ne_nil (fun e => by have := congrArg List.length e; simp at this; omega)]
  congr 1
  rw [List.dropLast_eq_take, List.dropLast_eq_take, List.length_drop, List.drop_take]
  congr 1
  omega
end Sw
