/- The walk of NameParts. -/
import Derived.Test.YtjglkbbhihlcgaaDoorRefUps
import Derived.Test.YtjglkbbhihlcgaaDoorSameStr
set_option linter.unusedVariables false
set_option linter.unusedSimpArgs false
namespace Sw
open Go Go.RowKit
theorem split_two (x : ByteArray) : decide ((1 : Int) < (spS x).length) = hasSl x := by
  unfold hasSl
  rw [decide_eq_decide, ← spS_count]
  have h : Lib.countB x ⟨#[47]⟩ = x.data.toList.count 47 := Lib.count_one _ _
  rw [h]
  have h2 : 0 < x.data.toList.count 47 ↔ (47 : UInt8) ∈ x.data.toList := List.count_pos_iff
  constructor
  · intro h3; exact h2.1 (by omega)
  · intro h3; have := h2.2 h3; omega
/-- what the reference joins -/
def wantS (l : List ByteArray) (i : Nat) : ByteArray := if (l.take i).any hasSl = true then mkB [47] else mkB (jnL (datL l))
theorem wantS_step (l : List ByteArray) (i : Nat) (h : i < l.length) : wantS l (i + 1) = if hasSl l[i] = true then mkB [47] else wantS l i := by
  unfold wantS
  rw [List.take_succ_eq_append_getElem h, List.any_append]
  cases h1 : (l.take i).any hasSl <;> cases h2 : hasSl l[i] <;> simp [h2]
theorem want_end (l : List ByteArray) : (l.length = 0 ∨ rightL (wantS l l.length).data.toList = false → joinS l = ⟨#[]⟩ ∧ joinB l = false) ∧ (rightL (wantS l l.length).data.toList = true → joinS l = wantS l l.length ∧ joinB l = true ∧ 0 < (wantS l l.length).size) := by
  unfold wantS
  rw [List.take_of_length_le (Nat.le_refl _)]
  unfold joinS joinB
  cases h1 : l.any hasSl with
  | true =>
    rw [if_pos rfl, data_mkB]
    have hs : rightL [47] = false := by decide
    rw [hs]
    exact ⟨fun _ => ⟨rfl, rfl⟩, fun h => (by cases h)⟩
  | false =>
    rw [if_neg (by simp), data_mkB]
    cases h2 : rightL (jnL (datL l)) with
    | true =>
      refine ⟨fun h => ?_, fun _ => ⟨rfl, rfl, ?_⟩⟩
      · rcases h with h | h
        · have : l = [] := List.length_eq_zero_iff.1 h
          subst this
          have h3 : rightL (jnL (datL [])) = rightL [] := rfl
          rw [h3, rightL_nil] at h2
          cases h2
        · cases h
      · have := right_pos (s := mkB (jnL (datL l))) (by rw [data_mkB]; exact h2)
        exact this
    | false => exact ⟨fun _ => ⟨rfl, rfl⟩, fun h => (by cases h)⟩
theorem wt_small : ∀ (l : List ByteArray), (∀ x ∈ l, x.size ≤ 100) → wt l ≤ 101 * l.length
  | [], _ => Nat.le_refl _
  | x :: l, h => by
    have h1 := wt_small l (fun y hy => h y (List.mem_cons_of_mem _ hy))
    have h2 := h x (by simp)
    rw [wt_cons, List.length_cons]
    omega
end Sw
namespace Go.Proofs.YtjglkbbhihlcgaaDoor
open Go Go.ChangeShapes Go.WideShapes Go.ChangeAt Go.RowKit
open Go.ChangeMaps (open_string shut_string)
open Sw
set_option maxRecDepth 100000 in
set_option maxHeartbeats 8000000 in
theorem nameParts_main (w : World) (s : ByteArray) (A : Option Addr) (n c : Nat) (l : List ByteArray) (hm : s.size ≤ maxLen) (hl : l.length = n) (hnc : n ≤ c) (hcm : c ≤ maxLen) (hsl : SlOf w 1 bE A l) (hv : ∀ t ∈ l, t.size ≤ maxLen) :
    Calls Tryd.prog 6 #[.string s, .slice A n c] w fun e w' => e = .returned (.bool true) ∧ Below w.heap.size w w' := by
  unfold maxLen at hm hcm
  obtain ⟨k, hk, hmin⟩ : ∃ k : Nat, k ≤ s.size ∧ min (s.size : Int) 300 = k := ⟨min s.size 300, by omega, by omega⟩
  obtain ⟨m, hmn, hmin2⟩ : ∃ m : Nat, m ≤ n ∧ min (n : Int) 20 = m := ⟨min n 20, by omega, by omega⟩
  have hk6 : k ≤ 300 := by omega
  have hm20 : m ≤ 20 := by omega
  have hsz : (s.extract 0 k).size = k := by rw [ByteArray.size_extract]; omega
  obtain ⟨S, hS⟩ : ∃ S, s.extract 0 k = S := ⟨_, rfl⟩
  rw [hS] at hsz
  obtain ⟨L, hL⟩ : ∃ L, l.take m = L := ⟨_, rfl⟩
  have hLl : L.length = m := by rw [← hL, List.length_take]; omega
  have hLs : SlOf w 1 bE A L := by rw [← hL]; exact hsl.take m
  have hLv : ∀ t ∈ L, t.size ≤ 9223372036854775807 := fun t ht => by
    rw [← hL] at ht
    exact hv t (List.mem_of_mem_take ht)
  have HL := Lib.hid (And.intro hLl (And.intro hLs hLv)); clear hLl hLs hLv hL hsl hv hl
  have hk1 : (k : Int) ≤ s.size := by omega
  have hm1 : (m : Int) ≤ c := by omega
  have hSZ := Lib.hid hsz; clear hsz
  go_enter Tryd.func6, Tryd.ntmps6
  go_wp2_with fail
  go_region
  have W1 : Below w.heap.size w w.drew := Below.drew (Below.refl _ _)
  have HL0 := Lib.hid (And.intro HL.out.1 (And.intro (HL.out.2.1.below W1 (Nat.le_refl _)) HL.out.2.2)); clear HL
  have HL := HL0; clear HL0
  generalize w.drew = w0 at *
  go_wp2_with fail
  go_loopw [4, 6, 29] (fun r _ iv wr => ∃ i : Nat, i ≤ m ∧ r = .bool false ∧ iv = .int .i64 i ∧ (∀ j (h : j < L.length), j < i → L[j].size ≤ 100) ∧ w0 = wr) (fun _ _ iv _ => m - (intOf iv).toNat)
  case atStart => exact ⟨0, Nat.zero_le _, rfl, rfl, fun j _ h => absurd h (Nat.not_lt_zero _), rfl⟩
  case round =>
    obtain ⟨i, hi, rfl, rfl, hsm, rfl⟩ := hrel
    have HSM := Lib.hid hsm; clear hsm
    by_cases hlt : i < m
    · have hiL : i < L.length := by have := HL.out.1; omega
      obtain ⟨b, off, rfl, hbb, hcs⟩ := HL.out.2.1 (by omega)
      have hci := hcs i hiL 0 (by omega)
      simp [bE] at hci
      have hi1 : (i : Int) < m := by omega
      clear hcs
      have HNX := Lib.hid (fun (hx : L[i].size ≤ 100) => (fun j (h : j < L.length) (hj : j < i + 1) => (by
        by_cases h2 : j < i
        · exact HSM.out j h h2
        · obtain rfl : j = i := by omega
          exact hx : L[j].size ≤ 100)))
      obtain ⟨X, hX⟩ : ∃ X, L[i] = X := ⟨_, rfl⟩
      rw [hX] at hci HNX
      have hXm : X.size ≤ 9223372036854775807 := by rw [← hX]; exact HL.out.2.2 _ (List.getElem_mem hiL)
      clear hX
      by_cases hbig : X.size ≤ 100
      · have HNY := Lib.hid (HNX.out hbig)
        have hbI : (X.size : Int) ≤ 100 := by omega
        go_wp2_with fail
        go_roundw
        case rel => exact ⟨i + 1, by omega, rfl, by go_num, HNY.out, by simp⟩
        case measure => simp [intOf]; omega
      · have hbI : ¬ (X.size : Int) ≤ 100 := by omega
        have hbJ : (100 : Int) < X.size := by omega
        go_wp2_with fail
        refine (lives13 _).mono ?_
        rintro e w7 ⟨rfl, hb7⟩
        go_wp2_with fail
        go_ret
        exact ⟨rfl, W1.trans (hb7.mono W1.size)⟩
    · obtain rfl : i = m := by omega
      have hall : ∀ x ∈ L, x.size ≤ 100 := fun x hx => by
        obtain ⟨j, hj, rfl⟩ := List.getElem_of_mem hx
        exact HSM.out j hj (by have := HL.out.1; omega)
      have HALL := Lib.hid hall; clear hall HSM
      clear hlt
      have HP := Lib.hid (fun W => refParts_any W S (by have := hSZ.out; omega))
      have HU := Lib.hid (fun W => refUps_any W S (by have := hSZ.out; omega))
      go_wp2_with fail
      refine (HP.out _).mono ?_
      rintro e w2 ⟨v, rfl, hown, hb2⟩
      obtain ⟨AP, cP, rfl, hcP, hmP, hslP⟩ := SlV.of_own hown bE_len (by omega)
      have W2 := W1.trans (hb2.mono W1.size)
      clear hown
      go_wp2_with fail
      refine (HU.out _).mono ?_
      rintro e w3 ⟨vU, rfl, hsU, hb3⟩
      obtain ⟨AU, cU, rfl, hcU, hmU, hslU⟩ := hsU
      have W3 := W2.trans (hb3.mono W2.size)
      have hslP3 := hslP.below hb3 (Nat.le_refl _)
      have W23 := hb2.trans (hb3.mono hb2.size)
      have hsl3 : SlOf w3 1 bE A L := HL.out.2.1.below W23 (Nat.le_refl _)
      have hwt := wt_small L HALL.out
      rw [HL.out.1] at hwt
      have hpw := partsS_wt S
      have hpl := wt_len (partsS S)
      have hbase : baseS S = (partsS S).getLastD ⟨#[]⟩ := rfl
      have hpar : parentS S = mkB (jnL (datL (partsS S).dropLast)) := rfl
      clear hslP
      obtain ⟨N, hN⟩ : ∃ N, (partsS S).length = N := ⟨_, rfl⟩
      have HPB := Lib.hid (And.intro hN (And.intro hbase (And.intro hpar hslP3)))
      have HPW := Lib.hid (And.intro hpw hwt)
      rw [hN] at hcP hpl ⊢
      have hN3 : N ≤ 302 := by have := hSZ.out; omega
      clear hN hbase hpar hslP3 hpw hwt hpl
      unfold maxLen at hmP hmU
      go_upto_if 45 with fail
      go_cut [9, 10] from 45 to 55 (fun p b wr => p = .string (parentS S) ∧ b = .string (baseS S) ∧ wr = w3)
      case first =>
        by_cases h0 : N = 0
        · have hnil : partsS S = [] := List.length_eq_zero_iff.1 (by have := HPB.out.1; omega)
          have hb0 : baseS S = ⟨#[]⟩ := by rw [HPB.out.2.1, hnil]; rfl
          have hp0 : parentS S = ⟨#[]⟩ := by rw [HPB.out.2.2.1, hnil]; rfl
          have HE := Lib.hid (And.intro hp0 hb0); clear hp0 hb0 hnil
          have hnI : ¬ 0 < N := by omega
          clear h0
          go_wp2_with fail
          go_meet
          exact ⟨by rw [HE.out.1], by rw [HE.out.2], rfl⟩
        · obtain ⟨K, rfl⟩ : ∃ K, N = K + 1 := ⟨N - 1, by omega⟩
          have hKL : K < (partsS S).length := by have := HPB.out.1; omega
          have hb0 : baseS S = (partsS S)[K] := by
            rw [HPB.out.2.1, List.getLastD_eq_getLast?, List.getLast?_eq_getElem?, HPB.out.1, Nat.add_sub_cancel, List.getElem?_eq_getElem hKL]
            rfl
          have hp0 : parentS S = mkB (jnL (datL ((partsS S).take K))) := by
            rw [HPB.out.2.2.1, List.dropLast_eq_take, HPB.out.1, Nat.add_sub_cancel]
          have hj := refJoin_any w3 AP K cP ((partsS S).take K) (by rw [List.length_take]; omega) (by unfold maxLen; omega) (HPB.out.2.2.2.take K) (by have h1 := wt_jn ((partsS S).take K); have h2 := wt_take (partsS S) K; have h3 := HPW.out.1; have h4 := hSZ.out; omega)
          rw [← hp0] at hj
          obtain ⟨b, off, rfl, hbb, hcs⟩ := HPB.out.2.2.2 (by omega)
          have hci := hcs K hKL 0 (by omega)
          simp [bE] at hci
          rw [← hb0] at hci
          have HJ := Lib.hid hj; clear hj hb0 hp0 hcs
          have hKc : (K : Int) ≤ cP := by omega
          have hKp : 0 < K + 1 := by omega
          clear h0
          go_wp2_with fail
          refine HJ.out.mono ?_
          rintro e w4 ⟨rfl, rfl⟩
          go_wp2_with fail
          go_meet
          exact ⟨rfl, rfl, rfl⟩
      case rest =>
        obtain ⟨rfl, rfl, rfl⟩ := hcut
        have hVP : SlV wc 1 bE (.slice AP N cP) (partsS S) := ⟨AP, cP, by rw [HPB.out.1], by rw [HPB.out.1]; exact hcP, by unfold maxLen; omega, HPB.out.2.2.2⟩
        have hVU : SlV wc 1 bE (.slice AU (upsS S).length cU) (upsS S) := ⟨AU, cU, rfl, hcU, by unfold maxLen; omega, hslU⟩
        have hjw : (jnL (datL L)).length ≤ 2020 := by have h1 := wt_jn L; have h2 := HPW.out.2; omega
        have HNJ := Lib.hid (nameJoin_any wc A i c L HL.out.1 (by omega) (by omega) hsl3 (by omega))
        have HRJ := Lib.hid (fun W h => refJoin_any W A i c L HL.out.1 (by unfold maxLen; omega) h (by omega))
        have HSV := Lib.hid (And.intro hVP hVU)
        have HSL := Lib.hid hsl3
        have hw0 : wantS L 0 = mkB (jnL (datL L)) := by unfold wantS; rw [List.take_zero]; rfl
        have hwz : ∀ j, (wantS L j).size ≤ 2020 := fun j => by
          unfold wantS
          split
          · rw [mkB_size]; decide
          · rw [mkB_size]; exact hjw
        rw [← hw0] at HRJ
        have HWZ := Lib.hid hwz
        clear hVP hVU hjw hsl3 hwz hw0 HPB HPW hslU W23 hb2 hb3 W2 hcU hmU hcP hmP HP HU
        obtain ⟨UN, hUN⟩ : ∃ UN, (upsS S).length = UN := ⟨_, rfl⟩
        rw [hUN] at HSV ⊢
        clear hUN
        obtain ⟨J, hJ⟩ : ∃ J, joinS L = J := ⟨_, rfl⟩
        obtain ⟨jb, hjb⟩ : ∃ jb, joinB L = jb := ⟨_, rfl⟩
        have hwe := want_end L
        rw [hJ, hjb, HL.out.1] at hwe
        rw [hJ, hjb] at HNJ
        have HWE := Lib.hid hwe; clear hwe hJ hjb
        go_wp2_with fail
        refine HNJ.out.mono ?_
        rintro e w4 ⟨rfl, hb4⟩
        have W4 := W3.trans (hb4.mono W3.size)
        have hsl4 := HSL.out.below hb4 (Nat.le_refl _)
        have HRK := Lib.hid (HRJ.out w4 hsl4)
        go_wp2_with fail
        refine HRK.out.mono ?_
        rintro e w5 ⟨rfl, rfl⟩
        go_wp2_with fail
        clear HRJ HNJ HSL
        have HST := Lib.hid (wantS_step L)
        go_loopw [14, 16, 65] (fun q _ iv wr => ∃ j : Nat, j ≤ i ∧ q = .string (wantS L j) ∧ iv = .int .i64 j ∧ Below w4.heap.size w4 wr) (fun _ _ iv _ => i - (intOf iv).toNat)
        case atStart => exact ⟨0, Nat.zero_le _, rfl, rfl, Below.refl _ _⟩
        case round =>
          obtain ⟨j, hj, rfl, rfl, hbr⟩ := hrel
          by_cases hlt : j < i
          · have hjL : j < L.length := by have := HL.out.1; omega
            obtain ⟨b, off, rfl, hbb, hcs⟩ := (hsl4.below hbr (Nat.le_refl _)) (by omega)
            have hci := hcs j hjL 0 (by omega)
            simp [bE] at hci
            have hst := HST.out j hjL
            have hXm := HALL.out _ (List.getElem_mem hjL)
            have hsp := split_two L[j]
            have HRS := Lib.hid (refSplit_any wr L[j] (by omega))
            clear hcs
            generalize L[j] = X at *
            generalize wantS L j = Q1 at *
            have hji : (j : Int) < i := by omega
            generalize hasSl X = hx at *
            obtain ⟨SL, hSL⟩ : ∃ SL, (spS X).length = SL := ⟨_, rfl⟩
            rw [hSL] at hsp
            have HST2 := Lib.hid hst; clear hst
            have HSLL := Lib.hid hSL; clear hSL
            cases hx with
            | true =>
              have hgt : 1 < SL := by have := of_decide_eq_true hsp; omega
              have HQ := Lib.hid (show wantS L (j + 1) = ⟨#[47]⟩ by rw [HST2.out, if_pos rfl]; rfl)
              clear hsp
              go_wp2_with fail
              refine HRS.out.mono ?_
              rintro e w6 ⟨v, rfl, hown, hb6⟩
              obtain ⟨A6, c6, rfl, hc6, hm6, hsl6⟩ := SlV.of_own hown bE_len (by omega)
              rw [HSLL.out]
              have W6 := hbr.trans (hb6.mono hbr.size)
              clear hown
              go_wp2_with fail
              go_roundw
              case rel => exact ⟨j + 1, by omega, by rw [HQ.out], by go_num, W6⟩
              case measure => simp [intOf]; omega
            | false =>
              have hgt : ¬ 1 < SL := by have := of_decide_eq_false hsp; omega
              have HQ := Lib.hid (show wantS L (j + 1) = Q1 by rw [HST2.out, if_neg (by simp)])
              clear hsp
              go_wp2_with fail
              refine HRS.out.mono ?_
              rintro e w6 ⟨v, rfl, hown, hb6⟩
              obtain ⟨A6, c6, rfl, hc6, hm6, hsl6⟩ := SlV.of_own hown bE_len (by omega)
              rw [HSLL.out]
              have W6 := hbr.trans (hb6.mono hbr.size)
              clear hown
              go_wp2_with fail
              go_roundw
              case rel => exact ⟨j + 1, by omega, by rw [HQ.out], by go_num, W6⟩
              case measure => simp [intOf]; omega
          · obtain rfl : j = i := by omega
            clear hlt
            have W7 := W4.trans (hbr.mono W4.size)
            have W7c := hb4.trans (hbr.mono hb4.size)
            have HR2 := Lib.hid (fun W => refRight_any W (wantS L j) (by have := HWZ.out j; omega))
            generalize wantS L j = Q at *
            go_upto_region 22 with fail
            obtain ⟨bad, hbad⟩ : ∃ bad : Bool, (decide (j = 0) || !rightL Q.data.toList) = bad := ⟨_, rfl⟩
            go_cut [81] from 74 to 81 (fun q wx => q = .bool bad ∧ Below wr.heap.size wr wx)
            case first =>
              by_cases h0 : j = 0
              · subst h0
                have HJ := Lib.hid (show bad = true by rw [← hbad]; simp)
                clear hbad
                go_wp2_with fail
                go_meet
                exact ⟨by rw [HJ.out], Below.refl _ _⟩
              · have hj0 : ((j : Int) == 0) = false := by rw [beq_eq_false_iff_ne]; omega
                rw [decide_eq_false h0, Bool.false_or] at hbad
                have HJ := Lib.hid hbad
                clear h0 hbad
                go_wp2_with fail
                refine (HR2.out _).mono ?_
                rintro e w8 ⟨rfl, hb8⟩
                go_wp2_with fail
                go_meet
                exact ⟨by rw [← HJ.out], hb8⟩
            case rest =>
            obtain ⟨rfl, hb9⟩ := hcut
            have HBD := Lib.hid hbad; clear hbad
            go_upto_if 81 with fail
            generalize wc = wd at *
            go_cut [14] from 81 to 81 (fun q wx => q = .string J ∧ wx = wd)
            case first =>
              cases bad with
              | true =>
                have HJ := Lib.hid (show J = ⟨#[]⟩ by
                  have h := HBD.out
                  rw [Bool.or_eq_true, decide_eq_true_eq, Bool.not_eq_true'] at h
                  exact (HWE.out.1 h).1)
                go_wp2_with fail
                go_meet
                exact ⟨by rw [HJ.out], rfl⟩
              | false =>
                have HJ := Lib.hid (show J = Q by
                  have h := HBD.out
                  rw [Bool.or_eq_false_iff, Bool.not_eq_false'] at h
                  exact (HWE.out.2 h.2).1)
                go_wp2_with fail
                go_meet
                exact ⟨by rw [HJ.out], rfl⟩
            case rest =>
              obtain ⟨rfl, rfl⟩ := hcut
              have hb8 := hb9
              have W8 := W7.trans (hb8.mono W7.size)
              have W8c := W7c.trans (hb8.mono W7c.size)
              have hjb : jb = !J.toList.isEmpty := by
                rw [str_empty]
                cases hr : rightL Q.data.toList with
                | true =>
                  obtain ⟨h1, h2, h3⟩ := HWE.out.2 hr
                  rw [h2, h1, decide_eq_false]
                  · rfl
                  · intro e
                    rw [e] at h3
                    exact absurd h3 (by decide)
                | false =>
                  obtain ⟨h1, h2⟩ := HWE.out.1 (.inr hr)
                  rw [h2, h1, decide_eq_true rfl]
                  rfl
              generalize hbb : J.toList.isEmpty = je at *
              subst hjb
              have hJJ : (J.toList == J.toList) = true := by simp
              have hPP : ((parentS S).toList == (parentS S).toList) = true := by simp
              have hBB : ((baseS S).toList == (baseS S).toList) = true := by simp
              have hrr : (rightL S.data.toList == rightL S.data.toList) = true := by simp
              have hee : ((!je) == (!je)) = true := by simp
              have f1 := fun W => right_any W S (by have := hSZ.out; omega)
              have f2 := fun W => refRight_any W S (by have := hSZ.out; omega)
              have f3 := fun W => parts_any W S (by have := hSZ.out; omega)
              have f4 := fun W => parent_any W S (by have := hSZ.out; omega)
              have f5 := fun W => base_any W S (by have := hSZ.out; omega)
              have f6 := fun W => ups_any W S (by have := hSZ.out; omega)
              generalize parentS S = P at *
              generalize baseS S = B at *
              generalize rightL S.data.toList = R at *
              have F1 := Lib.hid f1; clear f1
              have F2 := Lib.hid f2; clear f2
              have F3 := Lib.hid f3; clear f3
              have F4 := Lib.hid f4; clear f4
              have F5 := Lib.hid f5; clear f5
              have F6 := Lib.hid f6; clear f6
              go_wp2_with fail
              refine (F1.out _).mono ?_
              rintro e x1 ⟨rfl, y1⟩
              go_wp2_with fail
              refine (F2.out _).mono ?_
              rintro e x2 ⟨rfl, y2⟩
              have z2 := y1.trans (y2.mono y1.size)
              go_wp2_with fail
              refine (F3.out _).mono ?_
              rintro e x3 ⟨v3, rfl, s3, y3⟩
              have z3 := z2.trans (y3.mono z2.size)
              have ZP := Lib.hid (HSV.out.1.below (W8c.trans (z3.mono W8c.size)) (Nat.le_refl _))
              have S3 := Lib.hid s3
              clear s3
              go_wp2_with fail
              refine (same_any _ _ _ _ _ S3.out ZP.out).mono ?_
              rintro e x4 ⟨rfl, n4, rfl⟩
              have z4 := below_drewN z3 n4
              generalize x3.drewN n4 = x4 at *
              rw [decide_eq_true rfl]
              go_wp2_with fail
              refine (F4.out _).mono ?_
              rintro e x5 ⟨rfl, y5⟩
              have z5 := z4.trans (y5.mono z4.size)
              go_wp2_with fail
              refine (F5.out _).mono ?_
              rintro e x6 ⟨rfl, y6⟩
              have z6 := z5.trans (y6.mono z5.size)
              go_wp2_with fail
              refine (F6.out _).mono ?_
              rintro e x7 ⟨v7, rfl, s7, y7⟩
              have z7 := z6.trans (y7.mono z6.size)
              have ZU := Lib.hid (HSV.out.2.below (W8c.trans (z7.mono W8c.size)) (Nat.le_refl _))
              have S7 := Lib.hid s7
              clear s7
              go_wp2_with fail
              refine (same_any _ _ _ _ _ S7.out ZU.out).mono ?_
              rintro e x8 ⟨rfl, n8, rfl⟩
              have z8 := below_drewN z7 n8
              generalize x7.drewN n8 = x8 at *
              rw [decide_eq_true rfl]
              go_wp2_with fail
              refine (lives13 _).mono ?_
              rintro e x9 ⟨rfl, y9⟩
              have z9 := z8.trans (y9.mono z8.size)
              go_wp2_with fail
              go_ret
              exact ⟨rfl, W8.trans (z9.mono W8.size)⟩
set_option maxRecDepth 100000 in
theorem nameParts_walk : Walks 6 Tryd.f6 := by
  intro H enc W base args ds ps hval hA hlt hsz
  rw [Tryd.params6] at hA hval
  obtain ⟨v0, v1, d0, d1, p0, p1, rfl, rfl, rfl, h0, h1⟩ := trodAll_two hA
  obtain ⟨s, rfl, rfl, rfl, hs⟩ := open_string Tryd.underlying9 (hval 0 9 v0 rfl rfl) h0
  obtain ⟨A, n, c, l, rfl, hnc, hcm, hl, hsl, hv, _⟩ := open_slice_dec (size := 1) bE (fun a => a.size ≤ maxLen) Tryd.underlying26 (by kernel_rfl) (by omega) (fun fuel cs x h => by
    obtain ⟨a, ea, rfl, wa⟩ := DataW.trod_string Tryd.underlying9 h
    exact ⟨a, ea, wa⟩) (hval 1 26 v1 rfl rfl) h1
  exact nameParts_main W s A n c l hs hl hnc hcm hsl hv
end Go.Proofs.YtjglkbbhihlcgaaDoor
