/- The contract of the reference's Back. -/
import Derived.Test.YthmlfeaoaanmoaaRunsBack
import Derived.Test.YthmlfeaoaanmoaaHeld
set_option linter.unusedVariables false
set_option linter.unusedSimpArgs false
namespace Go.Proofs.Ythmlfeaoaanmoaa
open Go.RowKit
open Sw
/-- a step lies in its block -/
def StAt (w2 : World) (g : Nat) (c : Array Value) (W : World) : Prop := Blk W g 55 c ∧ Below w2.heap.size w2 W
theorem StAt.keep {w2 : World} {g : Nat} {c : Array Value} (W W' : World) (h : StAt w2 g c W) (hb : Below W.heap.size W W') : StAt w2 g c W' := ⟨h.1.below hb h.1.lt, h.2.trans (hb.mono h.2.size)⟩
set_option maxRecDepth 100000 in
set_option maxHeartbeats 8000000 in
theorem refBack_any (w : World) (A : Option Addr) (n c : Nat) (l : List St) (hl : l.length = n) (hn : n ≤ maxLen) (hsl : SlOf w 3 stC A l) :
    Calls Try.prog 36 #[.slice A n c] w (BackPost l w) := by
  unfold maxLen at hn
  have hbad : backGo l [] = none → ∀ w', Below w.heap.size w w' → BackPost l w (.returned (.tuple #[.slice none 0 0, .bool false])) w' := fun h w' hb => ⟨hb, by rw [h]⟩
  have hgood : ∀ out, backGo l [] = some out → ∀ v w', w'.ownsRow w.heap.size 3 1 v out.length (rowI out) → Below w.heap.size w w' → BackPost l w (.returned (.tuple #[v, .bool true])) w' := fun out h v w' ho hb => ⟨hb, by rw [h]; exact ⟨v, rfl, ho⟩⟩
  have HBAD := Lib.hid hbad; clear hbad
  have HGOOD := Lib.hid hgood; clear hgood
  have HS := Lib.hid hsl; clear hsl
  have HL := Lib.hid hl; clear hl
  go_enter Try.func36, Try.ntmps36
  go_wp2_with fail
  go_loopw [2, 3, 4, 14] (fun o2 f o t wr => ∃ (k : Nat) (out : List Int), k ≤ n ∧ t = .int .i64 k ∧ o2 = .slice none 0 0 ∧ f = .bool false ∧ backGo (l.drop k) out = backGo l [] ∧ out.length ≤ 400 ∧ wr.ownsRow w.heap.size 3 1 o out.length (rowI out) ∧ Below w.heap.size w wr) (fun _ _ _ t _ => n - (intOf t).toNat)
  case atStart => exact ⟨0, [], Nat.zero_le _, rfl, rfl, rfl, by simp, by simp, ⟨rfl, .inl ⟨rfl, rfl⟩⟩, Below.refl _ _⟩
  case round =>
    obtain ⟨k, out, hk, rfl, rfl, rfl, hbk, hlen, hown, hbw⟩ := hrel
    by_cases hlt : k < n
    · have hkl : k < l.length := by have := HL.out; omega
      obtain ⟨b, off, rfl, hbb, hcs⟩ := HS.out (by omega)
      have h0 := hcs k hkl 0 (by omega)
      have h1 := hcs k hkl 1 (by omega)
      have h2 := hcs k hkl 2 (by omega)
      rw [← hbw.cell (p := ⟨b, _, none⟩) hbb] at h0 h1 h2
      simp [stC] at h0 h1 h2
      rw [List.drop_eq_getElem_cons hkl, backGo] at hbk
      have hnb : b ≠ wr.heap.size := by have := hbw.size; omega
      clear hcs
      obtain ⟨A2, c2, rfl, hc2, hcm2, hs2⟩ := SlV.of_own hown intE_len (by omega)
      have hbad : badS l[k] out = decide (bitsI l[k].sym < 0 ∨ l[k].bits ≠ bitsI l[k].sym ∨ l[k].more < 0 ∨ 2 ^ (bitsI l[k].sym).toNat ≤ l[k].more ∨ (l[k].sym = 16 ∧ out.length = 0)) := rfl
      have htm : timesS l[k] = if l[k].sym = 16 ∨ l[k].sym = 17 then 3 + l[k].more else if l[k].sym = 18 then 11 + l[k].more else 1 := rfl
      have hvl : valS l[k] out = if l[k].sym = 16 then out.getD (out.length - 1) 0 else if l[k].sym = 17 ∨ l[k].sym = 18 then 0 else l[k].sym := rfl
      generalize badS l[k] out = bad at *
      generalize timesS l[k] = tm at *
      generalize valS l[k] out = vl at *
      generalize l[k].sym = sa at *
      generalize l[k].bits = sb at *
      generalize l[k].more = sc at *
      have hb7 : bitsI sa ≤ 7 ∧ -1 ≤ bitsI sa := by unfold bitsI; split <;> (try split) <;> (try split) <;> (try split) <;> omega
      have HBS := Lib.hid (fun W => refBits_any W sa)
      have hbb2 : (bitsI sa < 0 ↔ (sa < 0 ∨ 18 < sa)) := by unfold bitsI; split <;> (try split) <;> (try split) <;> (try split) <;> omega
      have hb15 : 0 ≤ sa ∧ sa ≤ 15 → bitsI sa = 0 := fun h => by unfold bitsI; rw [if_neg (by omega), if_pos h.2]
      have hb16 : sa = 16 → bitsI sa = 2 := fun h => by rw [h]; rfl
      have hb17 : sa = 17 → bitsI sa = 3 := fun h => by rw [h]; rfl
      have hb18 : sa = 18 → bitsI sa = 7 := fun h => by rw [h]; rfl
      generalize bitsI sa = bt at *
      have HBK := Lib.hid hbk; clear hbk
      have HB := Lib.hid hbad; clear hbad
      have HT := Lib.hid htm; clear htm
      have HV := Lib.hid hvl; clear hvl
      have HS2 := Lib.hid hs2; clear hs2
      have HCL := Lib.hid (And.intro hbb2 (And.intro hb15 (And.intro hb16 (And.intro hb17 hb18)))); clear hbb2 hb15 hb16 hb17 hb18
      unfold maxLen at hcm2
      have hST : Blk (wr.alloc (Obj.cells #[.int .i64 sa, .int .i64 sb, .int .i64 sc] 55)) wr.heap.size 55 #[.int .i64 sa, .int .i64 sb, .int .i64 sc] := Blk.new _ _ _
      have hbw2 : Below w.heap.size w (wr.alloc (Obj.cells #[.int .i64 sa, .int .i64 sb, .int .i64 sc] 55)) := hbw.alloc hbw.size _
      have hbr2 : Below wr.heap.size wr (wr.alloc (Obj.cells #[.int .i64 sa, .int .i64 sb, .int .i64 sc] 55)) := (Below.refl _ _).alloc (Nat.le_refl _) _
      have HOWN2 := Lib.hid (own_kept hown hbr2)
      have HWR := Lib.hid hbr2.size
      have HSO : Hid (SlOf (wr.alloc (Obj.cells #[.int .i64 sa, .int .i64 sb, .int .i64 sc] 55)) 1 intE A2 out) := HS2.out.below hbr2 (Nat.le_refl _)
      go_upto_block 2 with fail
      clear hbr2 hown h0 h1 h2
      obtain ⟨g, hg⟩ : ∃ g : Nat, g = wr.heap.size := ⟨_, rfl⟩
      rw [← hg] at hST hnb ⊢
      clear hg hbw
      generalize wr.alloc (Obj.cells #[.int .i64 sa, .int .i64 sb, .int .i64 sc] 55) = w2 at *
      have HST := Lib.hid hST; clear hST
      go_cut [7, 8] from 18 to 26 (fun x y wx => ∃ i : Nat, x = .int .i64 (2 ^ i : Nat) ∧ i = bt.toNat ∧ Below w2.heap.size w2 wx)
      case first =>
        go_wp2_with fail
        go_loopw [7, 8] (fun x y wr => ∃ i : Nat, x = .int .i64 (2 ^ i : Nat) ∧ y = .int .i64 i ∧ i ≤ bt.toNat ∧ Below w2.heap.size w2 wr) (fun _ y _ => bt.toNat - (intOf y).toNat)
        case atStart => exact ⟨0, rfl, rfl, by omega, Below.refl _ _⟩
        case round =>
          obtain ⟨i, rfl, rfl, hi, hb2⟩ := hrel
          have d0 := (HST.out.below hb2 HST.out.lt).cell 0
          simp at d0
          have hi7 : i ≤ 7 := by omega
          have hpw : (2 : Nat) ^ i ≤ 2 ^ 7 := Nat.pow_le_pow_right (by omega) hi7
          have hps : (2 : Nat) ^ (i + 1) = 2 * 2 ^ i := by rw [Nat.pow_succ, Nat.mul_comm]
          have HPS := Lib.hid hps; clear hps
          generalize hRD : (2 : Nat) ^ i = R at *
          have HRD := Lib.hid hRD; clear hRD
          by_cases hlt2 : (i : Int) < bt
          · go_wp2_with fail
            refine (HBS.out _).mono ?_
            rintro e w3 ⟨rfl, hb3⟩
            have hb4 := hb2.trans (hb3.mono hb2.size)
            go_wp2_with fail
            go_roundw
            case rel => exact ⟨i + 1, by rw [HPS.out]; go_num, by go_num, by omega, hb4⟩
            case measure => simp [intOf]; omega
          · have hib : i = bt.toNat := by omega
            have HIB := Lib.hid hib; clear hib
            go_wp2_with fail
            refine (HBS.out _).mono ?_
            rintro e w3 ⟨rfl, hb3⟩
            have hb4 := hb2.trans (hb3.mono hb2.size)
            go_wp2_with fail
            go_meet
            exact ⟨i, by rw [HRD.out], HIB.out, hb4⟩
      case rest =>
        obtain ⟨i, rfl, hi, hb3⟩ := hcut
        have hR : (2 : Int) ^ bt.toNat = ((2 ^ i : Nat) : Int) := by rw [← hi]; simp
        have hR0 : 1 ≤ 2 ^ i ∧ 2 ^ i ≤ 128 := ⟨Nat.one_le_two_pow, by
          have : (2 : Nat) ^ i ≤ 2 ^ 7 := Nat.pow_le_pow_right (by omega) (by omega)
          omega⟩
        rw [hR] at HB
        clear hR hi
        generalize 2 ^ i = R at *
        have hS0 : StAt w2 g #[.int .i64 sa, .int .i64 sb, .int .i64 sc] wc.drew := ⟨(HST.out.below hb3 HST.out.lt).drew, hb3.drew⟩
        have d0 := hS0.1.cell 0
        have d1 := hS0.1.cell 1
        have d2 := hS0.1.cell 2
        simp at d0 d1 d2
        have q0 : ∀ x : Held (StAt w2 g #[.int .i64 sa, .int .i64 sb, .int .i64 sc]), (HeldW x).cell? ⟨g, 0, none⟩ = some (.int .i64 sa) := fun x => (HeldW_spec x).1.cell 0
        have q1 : ∀ x : Held (StAt w2 g #[.int .i64 sa, .int .i64 sb, .int .i64 sc]), (HeldW x).cell? ⟨g, 1, none⟩ = some (.int .i64 sb) := fun x => (HeldW_spec x).1.cell 1
        have q2 : ∀ x : Held (StAt w2 g #[.int .i64 sa, .int .i64 sb, .int .i64 sc]), (HeldW x).cell? ⟨g, 2, none⟩ = some (.int .i64 sc) := fun x => (HeldW_spec x).1.cell 2
        haveI : Nonempty (Held (StAt w2 g #[.int .i64 sa, .int .i64 sb, .int .i64 sc])) := held_some hS0
        have HS0 := Lib.hid hS0; clear hS0
        go_upto_region 10 with fail
        go_cut [49] from 27 to 49 (fun v wx => v = .bool (decide (bt < 0 ∨ sb ≠ bt ∨ sc < 0 ∨ (R : Int) ≤ sc)) ∧ Below w2.heap.size w2 wx)
        case first =>
          by_cases p0 : bt < 0
          · have e0 : decide (bt < 0) = true := by simp; omega
            have HR := Lib.hid (show decide (bt < 0 ∨ sb ≠ bt ∨ sc < 0 ∨ (R : Int) ≤ sc) = true by apply decide_eq_true; omega)
            clear p0
            go_wp2_with fail
            refine wp_region_class (StAt w2 g #[.int .i64 sa, .int .i64 sb, .int .i64 sc]) (by kernel_rfl) (by kernel_rfl) HS0.out ?_
            repeat (go_big_quiet_step (with_reducible exact held_below StAt.keep (HBS.out _)))
            refine wpQuiet_nil ?_
            rintro _ ⟨nn, rfl⟩
            go_wp2_with fail
            go_meet
            exact ⟨by rw [HR.out], (HeldW_spec nn).2⟩
          · have e0 : decide (bt < 0) = false := by simp; omega
            by_cases p1 : sb = bt
            · have e1 : (sb != bt) = false := by rw [bne_eq_false_iff_eq]; exact p1
              by_cases p2 : sc < 0
              · have e2 : decide (sc < 0) = true := by simp; omega
                have HR := Lib.hid (show decide (bt < 0 ∨ sb ≠ bt ∨ sc < 0 ∨ (R : Int) ≤ sc) = true by apply decide_eq_true; omega)
                clear p0 p1 p2
                go_wp2_with fail
                refine wp_region_class (StAt w2 g #[.int .i64 sa, .int .i64 sb, .int .i64 sc]) (by kernel_rfl) (by kernel_rfl) HS0.out ?_
                repeat (go_big_quiet_step (with_reducible exact held_below StAt.keep (HBS.out _)))
                refine wpQuiet_nil ?_
                rintro _ ⟨nn, rfl⟩
                go_wp2_with fail
                go_meet
                exact ⟨by rw [HR.out], (HeldW_spec nn).2⟩
              · have e2 : decide (sc < 0) = false := by simp; omega
                by_cases p3 : (R : Int) ≤ sc
                · have e3 : decide ((R : Int) ≤ sc) = true := by simp; omega
                  have HR := Lib.hid (show decide (bt < 0 ∨ sb ≠ bt ∨ sc < 0 ∨ (R : Int) ≤ sc) = true by apply decide_eq_true; omega)
                  clear p0 p1 p2 p3
                  go_wp2_with fail
                  refine wp_region_class (StAt w2 g #[.int .i64 sa, .int .i64 sb, .int .i64 sc]) (by kernel_rfl) (by kernel_rfl) HS0.out ?_
                  repeat (go_big_quiet_step (with_reducible exact held_below StAt.keep (HBS.out _)))
                  refine wpQuiet_nil ?_
                  rintro _ ⟨nn, rfl⟩
                  go_wp2_with fail
                  go_meet
                  exact ⟨by rw [HR.out], (HeldW_spec nn).2⟩
                · have e3 : decide ((R : Int) ≤ sc) = false := by simp; omega
                  have HR := Lib.hid (show decide (bt < 0 ∨ sb ≠ bt ∨ sc < 0 ∨ (R : Int) ≤ sc) = false by apply decide_eq_false; omega)
                  clear p0 p1 p2 p3
                  go_wp2_with fail
                  refine wp_region_class (StAt w2 g #[.int .i64 sa, .int .i64 sb, .int .i64 sc]) (by kernel_rfl) (by kernel_rfl) HS0.out ?_
                  repeat (go_big_quiet_step (with_reducible exact held_below StAt.keep (HBS.out _)))
                  refine wpQuiet_nil ?_
                  rintro _ ⟨nn, rfl⟩
                  go_wp2_with fail
                  go_meet
                  exact ⟨by rw [HR.out], (HeldW_spec nn).2⟩
            · have e1 : (sb != bt) = true := by rw [bne_iff_ne]; exact p1
              have HR := Lib.hid (show decide (bt < 0 ∨ sb ≠ bt ∨ sc < 0 ∨ (R : Int) ≤ sc) = true by apply decide_eq_true; omega)
              clear p0 p1
              go_wp2_with fail
              refine wp_region_class (StAt w2 g #[.int .i64 sa, .int .i64 sb, .int .i64 sc]) (by kernel_rfl) (by kernel_rfl) HS0.out ?_
              repeat (go_big_quiet_step (with_reducible exact held_below StAt.keep (HBS.out _)))
              refine wpQuiet_nil ?_
              rintro _ ⟨nn, rfl⟩
              go_wp2_with fail
              go_meet
              exact ⟨by rw [HR.out], (HeldW_spec nn).2⟩
        case rest =>
          obtain ⟨rfl, hb4⟩ := hcut
          have hbw4 : Below w.heap.size w wc := hbw2.trans (hb4.mono hbw2.size)
          have HOWN4 := Lib.hid (own_kept HOWN2.out hb4)
          have hST4 := HST.out.below hb4 HST.out.lt
          have d0 := hST4.cell 0
          have d1 := hST4.cell 1
          have d2 := hST4.cell 2
          simp at d0 d1 d2
          generalize hq : decide (bt < 0 ∨ sb ≠ bt ∨ sc < 0 ∨ (R : Int) ≤ sc) = q at *
          have HQ := Lib.hid hq; clear hq
          have HS4 := Lib.hid (HSO.out.below hb4 (Nat.le_refl _))
          clear hST4 HST HS0 hb3 hb4 HBS HOWN2 q0 q1 q2
          generalize wc = w4 at *
          cases q with
          | true =>
            have hb1 : bad = true := by rw [HB.out]; apply decide_eq_true; have := of_decide_eq_true HQ.out; omega
            have hnone : backGo l [] = none := by have h := HBK.out; rw [if_pos (.inl hb1)] at h; exact h.symm
            have HFIN := Lib.hid (HBAD.out hnone w4 hbw4)
            go_wp2_with fail
            go_ret2
            exact HFIN.out
          | false =>
            have hok : ¬ (bt < 0 ∨ sb ≠ bt ∨ sc < 0 ∨ (R : Int) ≤ sc) := of_decide_eq_false HQ.out
            have hsa : 0 ≤ sa ∧ sa ≤ 18 := by have := HCL.out.1; omega
            have hsc0 : 0 ≤ sc := by omega
            have hsc1 : sc < 128 := by omega
            clear hok
            go_wp2_with fail
            go_quiet (fail)
            go_upto_if 54 with fail
            go_cut [2, 3, 9, 10] from 54 to 78 (fun o f x y wx => o = .slice none 0 0 ∧ f = .bool false ∧ x = .int .i64 tm ∧ y = .int .i64 vl ∧ bad = false ∧ ∃ m, wx = w4.drewN m)
            case first =>
              by_cases h16 : sa = 16
              · subst h16
                by_cases h0 : out.length = 0
                · have hb1 : bad = true := by rw [HB.out]; apply decide_eq_true; omega
                  have hnone : backGo l [] = none := by have h := HBK.out; rw [if_pos (.inl hb1)] at h; exact h.symm
                  have HFIN := Lib.hid (HBAD.out hnone _ (below_drewN hbw4 nq))
                  have e0 : ((out.length : Int) == 0) = true := by rw [beq_iff_eq]; omega
                  clear h0
                  go_wp2_with fail
                  go_ret2
                  exact HFIN.out
                · have e0 : ((out.length : Int) == 0) = false := by rw [beq_eq_false_iff_ne]; omega
                  have hb1 : bad = false := by rw [HB.out]; apply decide_eq_false; have := of_decide_eq_false HQ.out; omega
                  have hl0 : 0 < out.length := by omega
                  have HR := Lib.hid (show tm = 3 + sc by rw [HT.out, if_pos (.inl rfl)])
                  have HR2 := Lib.hid (show vl = out.getD (out.length - 1) 0 by rw [HV.out, if_pos rfl])
                  obtain ⟨b2, off2, rfl, hbb2, hcs⟩ := HS4.out hl0
                  have hce := hcs (out.length - 1) (by omega) 0 (by omega)
                  have hgd : out.getD (out.length - 1) 0 = out[out.length - 1] := by simp [List.getD_eq_getElem?_getD, List.getElem?_eq_getElem (show out.length - 1 < out.length by omega)]
                  simp [intE] at hce
                  rw [hgd] at HR2
                  generalize out[out.length - 1] = y at *
                  obtain ⟨q, hq⟩ : ∃ q : Nat, q = out.length - 1 := ⟨_, rfl⟩
                  rw [← hq] at hce
                  have s3 : (out.length : Int) - 1 = q := by omega
                  have hq1 : q < out.length := by omega
                  have HB1 := Lib.hid hb1; clear hb1 h0 hcs hgd
                  have HQQ := Lib.hid hq; clear hq
                  go_wp2_with fail
                  go_meet
                  exact ⟨rfl, rfl, by rw [HR.out], by rw [HR2.out], HB1.out, _, rfl⟩
              · have e16 : (sa == 16) = false := by rw [beq_eq_false_iff_ne]; exact h16
                have hb1 : bad = false := by rw [HB.out]; apply decide_eq_false; have := of_decide_eq_false HQ.out; omega
                have HB1 := Lib.hid hb1; clear hb1
                by_cases h17 : sa = 17
                · subst h17
                  have HR := Lib.hid (show tm = 3 + sc by rw [HT.out, if_pos (.inr rfl)])
                  have HR2 := Lib.hid (show vl = 0 by rw [HV.out, if_neg (by omega), if_pos (by omega)])
                  clear h16 e16
                  go_wp2_with fail
                  go_meet
                  exact ⟨rfl, rfl, by rw [HR.out], by rw [HR2.out], HB1.out, _, rfl⟩
                · have e17 : (sa == 17) = false := by rw [beq_eq_false_iff_ne]; exact h17
                  by_cases h18 : sa = 18
                  · subst h18
                    have HR := Lib.hid (show tm = 11 + sc by rw [HT.out, if_neg (by omega), if_pos rfl])
                    have HR2 := Lib.hid (show vl = 0 by rw [HV.out, if_neg (by omega), if_pos (by omega)])
                    clear h16 e16 h17 e17
                    go_wp2_with fail
                    go_meet
                    exact ⟨rfl, rfl, by rw [HR.out], by rw [HR2.out], HB1.out, _, rfl⟩
                  · have e18 : (sa == 18) = false := by rw [beq_eq_false_iff_ne]; exact h18
                    have HR := Lib.hid (show tm = 1 by rw [HT.out, if_neg (by omega), if_neg (by omega)])
                    have HR2 := Lib.hid (show vl = sa by rw [HV.out, if_neg (by omega), if_neg (by omega)])
                    clear h16 h17 h18
                    go_wp2_with fail
                    go_meet
                    exact ⟨rfl, rfl, by rw [HR.out], by rw [HR2.out], HB1.out, _, rfl⟩
            case rest =>
              obtain ⟨rfl, rfl, rfl, rfl, hbf, m, hw5⟩ := hcut
              have htb : 1 ≤ tm ∧ tm ≤ 138 := by
                rw [HT.out]
                split
                · omega
                · split <;> omega
              have hbw5 : Below w.heap.size w wc := by rw [hw5]; exact below_drewN hbw4 m
              have HOWN5 : Hid (wc.ownsRow w.heap.size 3 1 (.slice A2 out.length c2) out.length (rowI out)) := by rw [hw5]; exact HOWN4.out
              clear hw5 HV HT HB HS2 HS4 HSO HOWN4 d0 d1 d2 HCL HQ
              generalize wc = w5 at *
              obtain ⟨N, hN⟩ := Int.eq_ofNat_of_zero_le (show 0 ≤ tm by omega)
              subst hN
              have hbk2 : 400 < N + out.length → backGo l [] = none := fun hb => by
                have h := HBK.out
                rw [if_pos (.inr (by omega))] at h
                exact h.symm
              have hbk3 : ¬ 400 < N + out.length → backGo (l.drop (k + 1)) (out ++ List.replicate N vl) = backGo l [] := fun hb => by
                have h := HBK.out
                rw [if_neg (by rw [hbf]; simp; omega)] at h
                exact h
              have HBK2 := Lib.hid hbk2; clear hbk2
              have HBK3 := Lib.hid hbk3; clear hbk3 HBK hbf
              have hN138 : N ≤ 138 := by omega
              clear htb
              go_upto_block 4 with fail
              go_cut [4, 11] from 79 to 87 (fun o t wx => wx.ownsRow w.heap.size 3 1 o (out ++ List.replicate N vl).length (rowI (out ++ List.replicate N vl)) ∧ Below w.heap.size w wx)
              case first =>
                go_wp2_with fail
                go_loopw [4, 11] (fun o t wr2 => ∃ i : Nat, i ≤ N ∧ t = .int .i64 i ∧ wr2.ownsRow w.heap.size 3 1 o (out ++ List.replicate i vl).length (rowI (out ++ List.replicate i vl)) ∧ Below w.heap.size w wr2) (fun _ t _ => N - (intOf t).toNat)
                case atStart => exact ⟨0, Nat.zero_le _, rfl, by simpa using HOWN5.out, hbw5⟩
                case round =>
                  obtain ⟨i, hi, rfl, ho, hb5⟩ := hrel
                  by_cases hin : i < N
                  · have hre : out ++ List.replicate (i + 1) vl = (out ++ List.replicate i vl) ++ [vl] := by rw [List.replicate_succ', List.append_assoc]
                    have hlo : (out ++ List.replicate i vl).length = out.length + i := by simp
                    have HRE := Lib.hid hre; clear hre
                    generalize out ++ List.replicate i vl = cur at *
                    have HO := Lib.hid ho; clear ho
                    have hlc : cur.length + 1 ≤ 1000000 := by omega
                    have HLO := Lib.hid hlo; clear hlo
                    go_wp2_with (refine wpList_app rfl _ _ 48 rfl w.heap.size 3 (.int .i64 0) 1 8 Try.underlying48 info_i rfl (by omega) u4 cur.length (rowI cur) (by simp [Act.eval, Act.put]) (own_kept HO.out ((Below.refl _ _).alloc (Nat.le_refl _) _)) wr.heap.size 1 _ _ (by simp [Act.eval, Act.put]) (Blk.new _ _ _) rfl (by simp [Value.oneCell']) hlc (by omega) (by have := hb5.size; simp; omega) _ rfl ?_; intro g2 cap2 w5 ho2 hg2 hat2 hlt2)
                    have hw5 : Below w.heap.size w w5 := own_below HO.out (hb5.alloc hb5.size (Obj.cells #[.int .i64 vl] 3)) hg2 (Nat.le_refl _) (by have := hb5.size; simp; omega)
                    go_roundw
                    case rel => exact ⟨i + 1, by omega, by go_num, by rw [HRE.out, rowI_snoc, List.length_append]; exact ho2, hw5⟩
                    case measure => simp [intOf]; omega
                  · obtain rfl : i = N := by omega
                    go_wp2_with fail
                    go_meet
                    exact ⟨ho, hb5⟩
              case rest =>
                obtain ⟨ho, hb5⟩ := hcut
                have hlo : (out ++ List.replicate N vl).length = out.length + N := by simp
                generalize out ++ List.replicate N vl = cur at *
                obtain ⟨A6, c6, rfl, hc6, hcm6, _⟩ := SlV.of_own ho intE_len (by omega)
                unfold maxLen at hcm6
                have HO := Lib.hid ho; clear ho
                by_cases hbig : 400 < cur.length
                · have HFIN := Lib.hid (HBAD.out (HBK2.out (by omega)) _ hb5)
                  clear hlo
                  go_wp2_with fail
                  go_ret2
                  exact HFIN.out
                · have HB3 := Lib.hid (HBK3.out (by omega)); clear HBK3
                  have hlo2 : cur.length ≤ 400 := by omega
                  clear hlo
                  go_wp2_with fail
                  go_roundw
                  case rel => exact ⟨k + 1, cur, by omega, by go_num, rfl, rfl, HB3.out, hlo2, HO.out, hb5⟩
                  case measure => simp [intOf]; omega
    · obtain rfl : k = n := by omega
      have hd : l.drop k = [] := List.drop_of_length_le (by have := HL.out; omega)
      rw [hd, backGo] at hbk
      have HFIN := Lib.hid (HGOOD.out out hbk.symm u4 wr hown hbw)
      clear hbk hd hown HGOOD HBAD HS HL
      go_wp2_with fail
      go_ret2
      exact HFIN.out
end Go.Proofs.Ythmlfeaoaanmoaa
