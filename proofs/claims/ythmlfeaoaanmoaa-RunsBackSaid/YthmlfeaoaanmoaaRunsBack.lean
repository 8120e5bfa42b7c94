/- The contract of runs.Back. -/
import Derived.Test.YthmlfeaoaanmoaaRunsOfB
import Derived.Deep.CutBlock
import Derived.IntWalk
set_option linter.unusedVariables false
set_option linter.unusedSimpArgs false
namespace Go.Proofs.Ythmlfeaoaanmoaa
open Go.RowKit
open Sw
def rowI (l : List Int) : List Value := l.flatMap intE
theorem intE_len (k : Int) : (intE k).length = 1 := rfl
theorem rowI_snoc (l : List Int) (k : Int) : rowI (l ++ [k]) = rowI l ++ intE k := by simp [rowI]
theorem info_i : (Try.prog.info? 3).map (fun i => (i.zero, i.size, i.bytes)) = some (some (.int .i64 0), 1, 8) := by kernel_rfl
def BackPost (l : List St) (w : World) (e : Ending) (w' : World) : Prop :=
  Below w.heap.size w w' ∧ match backGo l [] with
  | none => e = .returned (.tuple #[.slice none 0 0, .bool false])
  | some out => ∃ v, e = .returned (.tuple #[v, .bool true]) ∧ w'.ownsRow w.heap.size 3 1 v out.length (rowI out)
set_option maxRecDepth 100000 in
set_option maxHeartbeats 8000000 in
theorem back_any (w : World) (A : Option Addr) (n c : Nat) (l : List St) (hl : l.length = n) (hn : n ≤ maxLen) (hsl : SlOf w 3 stC A l) :
    Calls Try.prog 35 #[.slice A n c] w (BackPost l w) := by
  unfold maxLen at hn
  have hbad : backGo l [] = none → ∀ w', Below w.heap.size w w' → BackPost l w (.returned (.tuple #[.slice none 0 0, .bool false])) w' := fun h w' hb => ⟨hb, by rw [h]⟩
  have hgood : ∀ out, backGo l [] = some out → ∀ v w', w'.ownsRow w.heap.size 3 1 v out.length (rowI out) → Below w.heap.size w w' → BackPost l w (.returned (.tuple #[v, .bool true])) w' := fun out h v w' ho hb => ⟨hb, by rw [h]; exact ⟨v, rfl, ho⟩⟩
  have HBAD := Lib.hid hbad; clear hbad
  have HGOOD := Lib.hid hgood; clear hgood
  have HS := Lib.hid hsl; clear hsl
  have HL := Lib.hid hl; clear hl
  go_enter Try.func35, Try.ntmps35
  go_wp2_with fail
  go_loopw [2, 3, 11] (fun o f t wr => ∃ (k : Nat) (out : List Int), k ≤ n ∧ t = .int .i64 k ∧ f = .bool false ∧ backGo (l.drop k) out = backGo l [] ∧ out.length ≤ 400 ∧ wr.ownsRow w.heap.size 3 1 o out.length (rowI out) ∧ Below w.heap.size w wr) (fun _ _ t _ => n - (intOf t).toNat)
  case atStart => exact ⟨0, [], Nat.zero_le _, rfl, rfl, by simp, by simp, ⟨rfl, .inl ⟨rfl, rfl⟩⟩, Below.refl _ _⟩
  case round =>
    obtain ⟨k, out, hk, rfl, rfl, hbk, hlen, hown, hbw⟩ := hrel
    by_cases hlt : k < n
    · have hkl : k < l.length := by have := HL.out; omega
      obtain ⟨b, off, rfl, hbb, hcs⟩ := HS.out (by omega)
      have h0 := hcs k hkl 0 (by omega)
      have h1 := hcs k hkl 1 (by omega)
      have h2 := hcs k hkl 2 (by omega)
      rw [← hbw.cell (p := ⟨b, _, none⟩) hbb] at h0 h1 h2
      simp [stC] at h0 h1 h2
      rw [List.drop_eq_getElem_cons hkl, backGo] at hbk
      have hnb : b ≠ wr.heap.size := by have := hbw.size; omega
      clear hcs
      obtain ⟨A2, c2, rfl, hc2, hcm2, hs2⟩ := SlV.of_own hown intE_len (by omega)
      have hbad : badS l[k] out = decide (bitsI l[k].sym < 0 ∨ l[k].bits ≠ bitsI l[k].sym ∨ l[k].more < 0 ∨ 2 ^ (bitsI l[k].sym).toNat ≤ l[k].more ∨ (l[k].sym = 16 ∧ out.length = 0)) := rfl
      have htm : timesS l[k] = if l[k].sym = 16 ∨ l[k].sym = 17 then 3 + l[k].more else if l[k].sym = 18 then 11 + l[k].more else 1 := rfl
      have hvl : valS l[k] out = if l[k].sym = 16 then out.getD (out.length - 1) 0 else if l[k].sym = 17 ∨ l[k].sym = 18 then 0 else l[k].sym := rfl
      generalize badS l[k] out = bad at *
      generalize timesS l[k] = tm at *
      generalize valS l[k] out = vl at *
      generalize l[k].sym = sa at *
      generalize l[k].bits = sb at *
      generalize l[k].more = sc at *
      have HBK := Lib.hid hbk; clear hbk
      have HB := Lib.hid hbad; clear hbad
      have HT := Lib.hid htm; clear htm
      have HV := Lib.hid hvl; clear hvl
      have HS2 := Lib.hid hs2; clear hs2
      have HOWN := Lib.hid hown; clear hown
      have HBS := Lib.hid (fun W => bits_any W sa)
      unfold maxLen at hcm2
      go_upto_region 5 with (go_at_call 34; refine (HBS.out _).mono ?_; rintro e w1 ⟨rfl, rfl⟩)
      go_cut [47] from 18 to 47 (fun v wx => v = .bool bad ∧ ∃ m, wx = (wr.alloc (Obj.cells #[.int .i64 sa, .int .i64 sb, .int .i64 sc] 56)).drewN m)
      case first =>
        have hsc := IntWalk.i64_in
        clear hsc
        have hcl : (sa < 0 ∨ 18 < sa) ∨ (0 ≤ sa ∧ sa ≤ 15) ∨ sa = 16 ∨ sa = 17 ∨ sa = 18 := by omega
        rcases hcl with hc | hc | hc | hc | hc
        · have hb : bitsI sa = -1 := by unfold bitsI; rw [if_pos hc]
          have hp : (2 : Int) ^ (bitsI sa).toNat = 1 := by rw [hb]; rfl
          have HR := Lib.hid (show bad = true by rw [HB.out]; apply decide_eq_true; rw [hp, hb]; omega)
          clear hp
          go_wp2_with fail
          go_quiet (fail)
          go_wp2_with fail
          go_meet
          exact ⟨by rw [HR.out], _, rfl⟩
        · have hb : bitsI sa = 0 := by unfold bitsI; rw [if_neg (by omega), if_pos hc.2]
          have h16 : (sa == 16) = false := by rw [beq_eq_false_iff_ne]; omega
          have hp : (2 : Int) ^ (bitsI sa).toNat = 1 := by rw [hb]; rfl
          by_cases q1 : sb = 0
          · have e1 : (sb != 0) = false := by rw [bne_eq_false_iff_eq]; exact q1
            by_cases q2 : sc < 0
            · have e2 : decide (sc < 0) = true := by simp; omega
              have HR := Lib.hid (show bad = true by rw [HB.out]; apply decide_eq_true; rw [hp, hb]; omega)
              clear hp
              clear q1 q2
              go_wp2_with fail
              go_quiet (fail)
              go_wp2_with fail
              go_meet
              exact ⟨by rw [HR.out], _, rfl⟩
            · have e2 : decide (sc < 0) = false := by simp; omega
              by_cases q3 : 1 ≤ sc
              · have e3 : decide (1 ≤ sc) = true := by simp; omega
                have HR := Lib.hid (show bad = true by rw [HB.out]; apply decide_eq_true; rw [hp, hb]; omega)
                clear hp
                clear q1 q2 q3
                go_wp2_with fail
                go_quiet (fail)
                go_wp2_with fail
                go_meet
                exact ⟨by rw [HR.out], _, rfl⟩
              · have e3 : decide (1 ≤ sc) = false := by simp; omega
                have HR := Lib.hid (show bad = false by rw [HB.out]; apply decide_eq_false; rw [hp, hb]; omega)
                clear hp
                clear q1 q2 q3
                go_wp2_with fail
                go_quiet (fail)
                go_wp2_with fail
                go_meet
                exact ⟨by rw [HR.out], _, rfl⟩
          · have e1 : (sb != 0) = true := by rw [bne_iff_ne]; exact q1
            have HR := Lib.hid (show bad = true by rw [HB.out]; apply decide_eq_true; rw [hp, hb]; omega)
            clear hp
            clear q1
            go_wp2_with fail
            go_quiet (fail)
            go_wp2_with fail
            go_meet
            exact ⟨by rw [HR.out], _, rfl⟩
        · subst hc
          have hb : bitsI 16 = 2 := by rfl
          have hp : (2 : Int) ^ (bitsI 16).toNat = 4 := by rfl
          by_cases q1 : sb = 2
          · have e1 : (sb != 2) = false := by rw [bne_eq_false_iff_eq]; exact q1
            by_cases q2 : sc < 0
            · have e2 : decide (sc < 0) = true := by simp; omega
              have HR := Lib.hid (show bad = true by rw [HB.out]; apply decide_eq_true; rw [hp, hb]; omega)
              clear hp
              clear q1 q2
              go_wp2_with fail
              go_quiet (fail)
              go_wp2_with fail
              go_meet
              exact ⟨by rw [HR.out], _, rfl⟩
            · have e2 : decide (sc < 0) = false := by simp; omega
              by_cases q3 : 4 ≤ sc
              · have e3 : decide (4 ≤ sc) = true := by simp; omega
                have HR := Lib.hid (show bad = true by rw [HB.out]; apply decide_eq_true; rw [hp, hb]; omega)
                clear hp
                clear q1 q2 q3
                go_wp2_with fail
                go_quiet (fail)
                go_wp2_with fail
                go_meet
                exact ⟨by rw [HR.out], _, rfl⟩
              · have e3 : decide (4 ≤ sc) = false := by simp; omega
                by_cases q4 : out.length = 0
                · have e4 : ((out.length : Int) == 0) = true := by rw [beq_iff_eq]; omega
                  have HR := Lib.hid (show bad = true by rw [HB.out]; apply decide_eq_true; rw [hp, hb]; omega)
                  clear hp
                  clear q1 q2 q3 q4
                  go_wp2_with fail
                  go_quiet (fail)
                  go_wp2_with fail
                  go_meet
                  exact ⟨by rw [HR.out], _, rfl⟩
                · have e4 : ((out.length : Int) == 0) = false := by rw [beq_eq_false_iff_ne]; omega
                  have HR := Lib.hid (show bad = false by rw [HB.out]; apply decide_eq_false; rw [hp, hb]; omega)
                  clear hp
                  clear q1 q2 q3 q4
                  go_wp2_with fail
                  go_quiet (fail)
                  go_wp2_with fail
                  go_meet
                  exact ⟨by rw [HR.out], _, rfl⟩
          · have e1 : (sb != 2) = true := by rw [bne_iff_ne]; exact q1
            have HR := Lib.hid (show bad = true by rw [HB.out]; apply decide_eq_true; rw [hp, hb]; omega)
            clear hp
            clear q1
            go_wp2_with fail
            go_quiet (fail)
            go_wp2_with fail
            go_meet
            exact ⟨by rw [HR.out], _, rfl⟩
        · subst hc
          have hb : bitsI 17 = 3 := by rfl
          have hp : (2 : Int) ^ (bitsI 17).toNat = 8 := by rfl
          by_cases q1 : sb = 3
          · have e1 : (sb != 3) = false := by rw [bne_eq_false_iff_eq]; exact q1
            by_cases q2 : sc < 0
            · have e2 : decide (sc < 0) = true := by simp; omega
              have HR := Lib.hid (show bad = true by rw [HB.out]; apply decide_eq_true; rw [hp, hb]; omega)
              clear hp
              clear q1 q2
              go_wp2_with fail
              go_quiet (fail)
              go_wp2_with fail
              go_meet
              exact ⟨by rw [HR.out], _, rfl⟩
            · have e2 : decide (sc < 0) = false := by simp; omega
              by_cases q3 : 8 ≤ sc
              · have e3 : decide (8 ≤ sc) = true := by simp; omega
                have HR := Lib.hid (show bad = true by rw [HB.out]; apply decide_eq_true; rw [hp, hb]; omega)
                clear hp
                clear q1 q2 q3
                go_wp2_with fail
                go_quiet (fail)
                go_wp2_with fail
                go_meet
                exact ⟨by rw [HR.out], _, rfl⟩
              · have e3 : decide (8 ≤ sc) = false := by simp; omega
                have HR := Lib.hid (show bad = false by rw [HB.out]; apply decide_eq_false; rw [hp, hb]; omega)
                clear hp
                clear q1 q2 q3
                go_wp2_with fail
                go_quiet (fail)
                go_wp2_with fail
                go_meet
                exact ⟨by rw [HR.out], _, rfl⟩
          · have e1 : (sb != 3) = true := by rw [bne_iff_ne]; exact q1
            have HR := Lib.hid (show bad = true by rw [HB.out]; apply decide_eq_true; rw [hp, hb]; omega)
            clear hp
            clear q1
            go_wp2_with fail
            go_quiet (fail)
            go_wp2_with fail
            go_meet
            exact ⟨by rw [HR.out], _, rfl⟩
        · subst hc
          have hb : bitsI 18 = 7 := by rfl
          have hp : (2 : Int) ^ (bitsI 18).toNat = 128 := by rfl
          by_cases q1 : sb = 7
          · have e1 : (sb != 7) = false := by rw [bne_eq_false_iff_eq]; exact q1
            by_cases q2 : sc < 0
            · have e2 : decide (sc < 0) = true := by simp; omega
              have HR := Lib.hid (show bad = true by rw [HB.out]; apply decide_eq_true; rw [hp, hb]; omega)
              clear hp
              clear q1 q2
              go_wp2_with fail
              go_quiet (fail)
              go_wp2_with fail
              go_meet
              exact ⟨by rw [HR.out], _, rfl⟩
            · have e2 : decide (sc < 0) = false := by simp; omega
              by_cases q3 : 128 ≤ sc
              · have e3 : decide (128 ≤ sc) = true := by simp; omega
                have HR := Lib.hid (show bad = true by rw [HB.out]; apply decide_eq_true; rw [hp, hb]; omega)
                clear hp
                clear q1 q2 q3
                go_wp2_with fail
                go_quiet (fail)
                go_wp2_with fail
                go_meet
                exact ⟨by rw [HR.out], _, rfl⟩
              · have e3 : decide (128 ≤ sc) = false := by simp; omega
                have HR := Lib.hid (show bad = false by rw [HB.out]; apply decide_eq_false; rw [hp, hb]; omega)
                clear hp
                clear q1 q2 q3
                go_wp2_with fail
                go_quiet (fail)
                go_wp2_with fail
                go_meet
                exact ⟨by rw [HR.out], _, rfl⟩
          · have e1 : (sb != 7) = true := by rw [bne_iff_ne]; exact q1
            have HR := Lib.hid (show bad = true by rw [HB.out]; apply decide_eq_true; rw [hp, hb]; omega)
            clear hp
            clear q1
            go_wp2_with fail
            go_quiet (fail)
            go_wp2_with fail
            go_meet
            exact ⟨by rw [HR.out], _, rfl⟩
      case rest =>
        obtain ⟨rfl, m, hwc⟩ := hcut
        have hbw2 : Below w.heap.size w wc := by rw [hwc]; exact below_drewN (hbw.alloc hbw.size _) m
        have hbr2 : Below wr.heap.size wr wc := by rw [hwc]; exact below_drewN ((Below.refl _ _).alloc (Nat.le_refl _) _) m
        have hST : Blk wc wr.heap.size 56 #[.int .i64 sa, .int .i64 sb, .int .i64 sc] := by rw [hwc]; exact Blk.new _ _ _
        have HOWN2 := Lib.hid (own_kept HOWN.out hbr2)
        clear hwc
        have d0 := hST.cell 0
        have d1 := hST.cell 1
        have d2 := hST.cell 2
        simp at d0 d1 d2
        have HST := Lib.hid hST; clear hST h0 h1 h2
        generalize wc = w2 at *
        cases bad with
        | true =>
          have hnone : backGo l [] = none := by have h := HBK.out; rw [if_pos (.inl rfl)] at h; exact h.symm
          have HFIN := Lib.hid (HBAD.out hnone w2 hbw2)
          go_wp2_with fail
          go_ret2
          exact HFIN.out
        | false =>
          have hok : ¬ (bitsI sa < 0 ∨ sb ≠ bitsI sa ∨ sc < 0 ∨ 2 ^ (bitsI sa).toNat ≤ sc ∨ (sa = 16 ∧ out.length = 0)) := of_decide_eq_false HB.out.symm
          have hcl : (0 ≤ sa ∧ sa ≤ 15) ∨ sa = 16 ∨ sa = 17 ∨ sa = 18 := by
            rcases (show (sa < 0 ∨ 18 < sa) ∨ (0 ≤ sa ∧ sa ≤ 15) ∨ sa = 16 ∨ sa = 17 ∨ sa = 18 by omega) with h | h
            · exact absurd (.inl (by unfold bitsI; rw [if_pos h]; omega)) hok
            · exact h
          have htb : 1 ≤ tm ∧ tm ≤ 138 := by
            rw [HT.out]
            rcases hcl with h | rfl | rfl | rfl
            · rw [if_neg (by omega), if_neg (by omega)]; omega
            · have hp : (2 : Int) ^ (bitsI 16).toNat = 4 := by rfl
              rw [hp] at hok
              simp; omega
            · have hp : (2 : Int) ^ (bitsI 17).toNat = 8 := by rfl
              rw [hp] at hok
              simp; omega
            · have hp : (2 : Int) ^ (bitsI 18).toNat = 128 := by rfl
              rw [hp] at hok
              simp; omega
          have hsc0 : 0 ≤ sc ∧ sc < 128 := by
            rcases hcl with h | rfl | rfl | rfl
            · have hb : bitsI sa = 0 := by unfold bitsI; rw [if_neg (by omega), if_pos h.2]
              have hp : (2 : Int) ^ (bitsI sa).toNat = 1 := by rw [hb]; rfl
              rw [hp] at hok; omega
            · have hp : (2 : Int) ^ (bitsI 16).toNat = 4 := by rfl
              rw [hp] at hok; omega
            · have hp : (2 : Int) ^ (bitsI 17).toNat = 8 := by rfl
              rw [hp] at hok; omega
            · have hp : (2 : Int) ^ (bitsI 18).toNat = 128 := by rfl
              rw [hp] at hok; omega
          obtain ⟨hsc1, hsc2⟩ := hsc0
          have hne16 : sa = 16 → out.length ≠ 0 := fun h => by omega
          clear hok
          have HNE := Lib.hid hne16; clear hne16
          go_wp2_with fail
          go_quiet (fail)
          go_upto_block 2 with fail
          go_cut [7, 8] from 48 to 73 (fun x y wx => x = .int .i64 tm ∧ y = .int .i64 vl ∧ ∃ m, wx = w2.drewN m)
          case first =>
            rcases hcl with h | rfl | rfl | rfl
            · have e1 : (sa == 16) = false := by rw [beq_eq_false_iff_ne]; omega
              have e2 : ¬ 16 < sa := by omega
              have HR := Lib.hid (show tm = 1 by rw [HT.out, if_neg (by omega), if_neg (by omega)])
              have HR2 := Lib.hid (show vl = sa by rw [HV.out, if_neg (by omega), if_neg (by omega)])
              go_wp2_with fail
              go_meet
              exact ⟨by rw [HR.out], by rw [HR2.out], _, rfl⟩
            · have hl0 : 0 < out.length := by have := HNE.out rfl; omega
              have HR := Lib.hid (show tm = 3 + sc by rw [HT.out, if_pos (.inl rfl)])
              have HR2 := Lib.hid (show vl = out.getD (out.length - 1) 0 by rw [HV.out, if_pos rfl])
              obtain ⟨b2, off2, rfl, hbb2, hcs⟩ := HS2.out hl0
              have hce := hcs (out.length - 1) (by omega) 0 (by omega)
              have hgd : out.getD (out.length - 1) 0 = out[out.length - 1] := by simp [List.getD_eq_getElem?_getD, List.getElem?_eq_getElem (show out.length - 1 < out.length by omega)]
              simp [intE] at hce
              rw [← hbr2.cell (p := ⟨b2, _, none⟩) hbb2] at hce
              rw [hgd] at HR2
              generalize out[out.length - 1] = y at *
              obtain ⟨q, hq⟩ : ∃ q : Nat, q = out.length - 1 := ⟨_, rfl⟩
              rw [← hq] at hce
              have s1 : IntKind.i64.wrap ((out.length : Int) - 1) = q := by
                rw [show (out.length : Int) - 1 = q by omega]; exact IntWalk.i64_in _ (by omega)
              have s2 : IntKind.i64.wrap (3 + sc) = 3 + sc := IntWalk.i64_in _ (by omega)
              have s3 : (out.length : Int) - 1 = q := by omega
              have hq1 : q < out.length := by omega
              have hle := Lib.hid (fun W => least_any W 16)
              rw [show leastI 16 = 3 by rfl] at hle
              have HQ := Lib.hid hq; clear hq hcs hgd
              go_wp2_with fail
              go_quiet (first | with_reducible exact quietL (hle.out _) | exact quietL (hle.out _) | with_reducible exact quietLA (hle.out _) | exact quietLA (hle.out _))
              go_wp2_with fail
              go_meet
              exact ⟨by rw [HR.out], by rw [HR2.out], _, by rw [World.drewN_drewN]⟩
            · have HR := Lib.hid (show tm = 3 + sc by rw [HT.out, if_pos (.inr rfl)])
              have HR2 := Lib.hid (show vl = 0 by rw [HV.out, if_neg (by omega), if_pos (by omega)])
              have s2 : IntKind.i64.wrap (3 + sc) = 3 + sc := IntWalk.i64_in _ (by omega)
              have hle := Lib.hid (fun W => least_any W 17)
              rw [show leastI 17 = 3 by rfl] at hle
              go_wp2_with fail
              go_quiet (first | with_reducible exact quietL (hle.out _) | exact quietL (hle.out _) | with_reducible exact quietLA (hle.out _) | exact quietLA (hle.out _))
              go_wp2_with fail
              go_meet
              exact ⟨by rw [HR.out], by rw [HR2.out], _, by rw [World.drewN_drewN]⟩
            · have HR := Lib.hid (show tm = 11 + sc by rw [HT.out, if_neg (by omega), if_pos rfl])
              have HR2 := Lib.hid (show vl = 0 by rw [HV.out, if_neg (by omega), if_pos (by omega)])
              have s2 : IntKind.i64.wrap (11 + sc) = 11 + sc := IntWalk.i64_in _ (by omega)
              have hle := Lib.hid (fun W => least_any W 18)
              rw [show leastI 18 = 11 by rfl] at hle
              go_wp2_with fail
              go_quiet (first | with_reducible exact quietL (hle.out _) | exact quietL (hle.out _) | with_reducible exact quietLA (hle.out _) | exact quietLA (hle.out _))
              go_wp2_with fail
              go_meet
              exact ⟨by rw [HR.out], by rw [HR2.out], _, by rw [World.drewN_drewN]⟩
          case rest =>
            obtain ⟨rfl, rfl, m2, hw3⟩ := hcut
            have hbw3 : Below w.heap.size w wc := by rw [hw3]; exact below_drewN hbw2 m2
            have HOWN3 : Hid (wc.ownsRow w.heap.size 3 1 (.slice A2 out.length c2) out.length (rowI out)) := by rw [hw3]; exact HOWN2.out
            clear hw3 HV HT HB HNE HS2 HBS HOWN HOWN2 d0 d1 d2 HST hcl
            generalize wc = w3 at *
            by_cases hbig : 400 < tm + out.length
            · have hnone : backGo l [] = none := by have h := HBK.out; rw [if_pos (.inr hbig)] at h; exact h.symm
              have HFIN := Lib.hid (HBAD.out hnone w3 hbw3)
              have hd : (400 : Int) - out.length < tm := by omega
              go_wp2_with fail
              go_ret2
              exact HFIN.out
            · have hd : ¬ (400 : Int) - out.length < tm := by omega
              obtain ⟨N, hN⟩ := Int.eq_ofNat_of_zero_le (show 0 ≤ tm by omega)
              subst hN
              have hbk2 : backGo (l.drop (k + 1)) (out ++ List.replicate N vl) = backGo l [] := by
                have h := HBK.out
                rw [if_neg (by simp; omega)] at h
                exact h
              have HBK2 := Lib.hid hbk2; clear hbk2 HBK
              go_wp2_with fail
              go_loopw [2, 80] (fun o t wr2 => ∃ i : Nat, i ≤ N ∧ t = .int .i64 i ∧ wr2.ownsRow w.heap.size 3 1 o (out ++ List.replicate i vl).length (rowI (out ++ List.replicate i vl)) ∧ Below w.heap.size w wr2) (fun _ t _ => N - (intOf t).toNat)
              case atStart => exact ⟨0, Nat.zero_le _, rfl, by simpa using HOWN3.out, hbw3⟩
              case round =>
                obtain ⟨i, hi, rfl, ho, hb4⟩ := hrel
                by_cases hin : i < N
                · have hre : out ++ List.replicate (i + 1) vl = (out ++ List.replicate i vl) ++ [vl] := by rw [List.replicate_succ', List.append_assoc]
                  have hlo : (out ++ List.replicate i vl).length = out.length + i := by simp
                  have HRE := Lib.hid hre; clear hre
                  generalize out ++ List.replicate i vl = cur at *
                  have HO := Lib.hid ho; clear ho
                  have hlc : cur.length + 1 ≤ 1000000 := by omega
                  have HLO := Lib.hid hlo; clear hlo
                  go_wp2_with (refine wpList_app rfl _ _ 48 rfl w.heap.size 3 (.int .i64 0) 1 8 Try.underlying48 info_i rfl (by omega) u2 cur.length (rowI cur) (by simp [Act.eval, Act.put]) (own_kept HO.out ((Below.refl _ _).alloc (Nat.le_refl _) _)) wr.heap.size 1 _ _ (by simp [Act.eval, Act.put]) (Blk.new _ _ _) rfl (by simp [Value.oneCell']) hlc (by omega) (by have := hb4.size; simp; omega) _ rfl ?_; intro g2 cap2 w5 ho2 hg2 hat2 hlt2)
                  have hw5 : Below w.heap.size w w5 := own_below HO.out (hb4.alloc hb4.size (Obj.cells #[.int .i64 vl] 3)) hg2 (Nat.le_refl _) (by have := hb4.size; simp; omega)
                  go_roundw
                  case rel => exact ⟨i + 1, by omega, by go_num, by rw [HRE.out, rowI_snoc, List.length_append]; exact ho2, hw5⟩
                  case measure => simp [intOf]; omega
                · obtain rfl : i = N := by omega
                  have hlo : (out ++ List.replicate i vl).length = out.length + i := by simp
                  generalize out ++ List.replicate i vl = cur at *
                  have hlo2 : cur.length ≤ 400 := by omega
                  have HO := Lib.hid ho; clear ho hlo hbig hd
                  go_wp2_with fail
                  go_roundw
                  case rel => exact ⟨k + 1, cur, by omega, by go_num, rfl, HBK2.out, hlo2, HO.out, hb4⟩
                  case measure => simp [intOf]; omega
    · obtain rfl : k = n := by omega
      have hd : l.drop k = [] := List.drop_of_length_le (by have := HL.out; omega)
      rw [hd, backGo] at hbk
      have HFIN := Lib.hid (HGOOD.out out hbk.symm u2 wr hown hbw)
      clear hbk hd hown HGOOD HBAD HS HL
      go_wp2_with fail
      go_ret2
      exact HFIN.out
end Go.Proofs.Ythmlfeaoaanmoaa
