/- Several texts, joined for the limit of sixty files; each one opens with its own comment. -/
import Derived.Test.YtlogdionhgabdaaDoorJoin37
import Derived.Test.YtlogdionhgabdaaDoorJoin48
/- StatTallies: the walk. -/
set_option linter.unusedVariables false
set_option linter.unusedSimpArgs false
namespace Go.Proofs.YtlogdionhgabdaaDoor
open Go Go.RowKit
open Sw
set_option maxRecDepth 100000 in
set_option maxHeartbeats 8000000 in
theorem statTallies_main (w : World) (A : Option Addr) (n c : Nat) (l : List En) (k m : Int) (hn : l.length = n) (hnc : n ≤ c) (hcm : c ≤ maxLen) (hsl : SlOf w 2 eCII A l) (hm0 : 0 ≤ m) (hm1 : m < 18446744073709551616) :
    Calls Tryd.prog 3 #[.slice A n c, .int .i64 k, .int .u64 m] w fun e w' => e = .returned (.bool true) ∧ Below w.heap.size w w' := by
  have HL := Lib.hid hn; clear hn
  unfold maxLen at hcm
  by_cases h40 : 40 < n
  · have h40' : (40 : Int) < n := by omega
    have HV := Lib.hid (lives39 w)
    clear hsl
    go_enter Tryd.func3, Tryd.ntmps3
    go_wp2_with fail
    refine HV.out.mono ?_
    rintro e w1 ⟨rfl, hb1⟩
    go_wp2_with fail
    go_ret
    exact ⟨rfl, hb1⟩
  · have h40' : ¬ (40 : Int) < n := by omega
    have HN := Lib.hid (statNew_any w)
    have HS := Lib.hid hsl; clear hsl
    go_enter Tryd.func3, Tryd.ntmps3
    go_wp2_with fail
    refine HN.out.mono ?_
    rintro e w1 ⟨tb, bm, rfl, hT, htb, hbm, hb1⟩
    have H1 := Lib.hid (And.intro hT (And.intro hb1 (And.intro htb hbm))); clear hT hb1 htb hbm
    go_wp2_with fail
    go_loopw [8, 24] (fun o iv wr => ∃ i : Nat, i ≤ n ∧ iv = .int .i64 i ∧ (foldT (l.take i)).length ≤ i ∧ (∀ e ∈ foldT (l.take i), 0 ≤ e.2 ∧ e.2 ≤ 1000000000 * (i : Int)) ∧ Tly wr tb bm (foldT (l.take i)) ∧ Own39 wr w.heap.size o (foldT (l.take i)) ∧ Below w.heap.size w wr) (fun _ iv _ => n - (intOf iv).toNat)
    case atStart => exact ⟨0, Nat.zero_le _, rfl, Nat.le_refl _, (fun e he => by cases he), H1.out.1, World.ownsRow_nil _ _ _ _, H1.out.2.1⟩
    case round =>
      obtain ⟨i, hi, rfl, hXl, hXv, hT, ho, hb⟩ := hrel
      have hbs := hb.size
      by_cases hlt : i < n
      · have hiL : i < l.length := by have := HL.out; omega
        obtain ⟨b, off, rfl, hbb, hcs⟩ := (HS.out.below hb (Nat.le_refl _)) (by omega)
        have c0 := hcs i hiL 0 (by omega)
        have c1 := hcs i hiL 1 (by omega)
        simp only [eCII, List.getElem?_cons_succ, List.getElem?_cons_zero, Nat.add_zero] at c0 c1
        clear hcs
        have hi1 : (i : Int) < n := by omega
        have hst := foldT_step l i hiL
        obtain ⟨x, hx⟩ : ∃ x, l[i] = x := ⟨_, rfl⟩
        simp only [hx] at c0 c1 hst
        clear hx
        obtain ⟨X, hX⟩ : ∃ X, foldT (l.take i) = X := ⟨_, rfl⟩
        rw [hX] at hst hXl hXv hT ho
        clear hX
        have hg := addN_get (k := x.1) (by omega : (0 : Int) ≤ 1000000000 * (i : Int)) hXv
        obtain ⟨A3, c3, rfl, _, _, _⟩ := SlV_of_any ho
        have hba : Below wr.heap.size wr (wr.alloc (.cells #[.int .i64 x.1, .int .i64 x.2] 29)) := (Below.refl _ _).alloc (Nat.le_refl _) _
        have hAD := statAdd_any _ tb bm X x.1 x.2 (hT.below hba) (by omega) hg.1 (by omega)
        have hB0 := Blk.new wr 29 #[.int .i64 x.1, .int .i64 x.2]
        have H2 := Lib.hid (And.intro (own39_below ho hba) (And.intro (hb.trans (hba.mono hbs)) (And.intro hB0 hst)))
        have HV := Lib.hid hXv
        have HT := Lib.hid hT
        have HAD := Lib.hid hAD
        have HXL := Lib.hid hXl
        clear hT ho hb hba hAD hB0 hst hXv hg hXl
        obtain ⟨q, hq⟩ : ∃ q, X.length = q := ⟨_, rfl⟩
        rw [hq] at H2 HXL ⊢
        have HQ := Lib.hid hq; clear hq
        go_wp2_with fail
        refine HAD.out.mono ?_
        rintro e w2 ⟨rfl, hT2, hg2⟩
        have hbmlt : bm < wr.heap.size := HT.out.2.lt
        have htyp := fun (u : Value) (L : List En) (h : Own39 (wr.alloc (.cells #[.int .i64 x.1, .int .i64 x.2] 29)) w.heap.size u L) => (by
          obtain ⟨vv, hbv, _⟩ := (HT.out.2.below ((Below.refl wr.heap.size wr).alloc (Nat.le_refl _) (.cells #[.int .i64 x.1, .int .i64 x.2] 29))).row
          exact own_grown_typ h hg2 hbv (by decide) : Own39 w2 w.heap.size u L)
        have ho2 := htyp _ _ H2.out.1
        have hB2 := H2.out.2.2.1.grown hg2 (fun e => by have : wr.heap.size = bm := by simpa using e
                                                        omega)
        have hb2 := H2.out.2.1.grown hg2 H2.out.2.1.size (fun k hk => by cases hk; exact H1.out.2.2.2)
        have x0 := hB2.cell 0
        have x1 := hB2.cell 1
        simp at x0 x1
        have HRA := Lib.hid (ref39Add_any w2 _ X x.1 x.2 (own39_slv ho2) (by have := HXL.out; have := HQ.out; omega) (fun e he => by have := HV.out e he; omega))
        have H3 := Lib.hid (And.intro hT2 (And.intro hb2 H2.out.2.2.2)); clear hT2 hb2 ho2 hB2 htyp hg2 H2
        go_wp2_with fail
        refine HRA.out.mono ?_
        rintro e w3 ⟨r, rfl, ho3, hb3⟩
        rw [refAdd_eq] at ho3
        have H4 := Lib.hid (And.intro (H3.out.1.below hb3) (And.intro (own_wide ho3 H3.out.2.1.size : Own39 w3 w.heap.size r _) (H3.out.2.1.trans (hb3.mono H3.out.2.1.size))))
        clear ho3 hb3 x0 x1
        go_wp2_with fail
        go_roundw
        case rel => exact ⟨i + 1, by omega, by go_num, by rw [H3.out.2.2]; have := addN_len x.1 x.2 X; have := HXL.out; have := HQ.out; omega, by rw [H3.out.2.2]; exact fun e he => by have := addN_vals (by omega : (0 : Int) ≤ 1000000000 * (i : Int)) HV.out e he; omega, by rw [H3.out.2.2]; exact H4.out.1, by rw [H3.out.2.2]; exact H4.out.2.1, H4.out.2.2⟩
        case measure => simp [intOf]; omega
      · obtain rfl : i = n := by omega
        have hf : l.take i = l := List.take_of_length_le (by have := HL.out; omega)
        rw [hf] at hXl hXv hT ho
        clear hf HS HN
        obtain ⟨X, hX⟩ : ∃ X, foldT l = X := ⟨_, rfl⟩
        rw [hX] at hXl hXv hT ho
        clear hX
        obtain ⟨A3, c3, rfl, hc3, -, -⟩ := SlV_of_any ho
        have hup := hT.2.up
        have hsum := sumN_le (1000000000 * (i : Int)) X (fun e he => (hXv e he).2)
        have H5 := Lib.hid (And.intro hT (And.intro ho (And.intro hb (And.intro hup hXv))))
        have hs0 := hb.size
        have hsum2 : sumN X ≤ 1600000000000 := by
          have h1 : (X.length : Int) * (1000000000 * (i : Int)) ≤ 40 * 40000000000 := Int.mul_le_mul (by omega) (by omega) (by omega) (by omega)
          omega
        have HSM := Lib.hid hsum2
        have HC3 := Lib.hid hc3
        clear hT ho hb hup hXv hsum hsum2 hc3
        obtain ⟨q, hq⟩ : ∃ q, X.length = q := ⟨_, rfl⟩
        rw [hq] at H5 hXl HC3 ⊢
        have HQ := Lib.hid hq; clear hq
        generalize wr = w4 at *
        have hq40 : q ≤ 40 := by omega
        go_wp2_with fail
        go_loopw [11, 43] (fun tot iv wr => ∃ j : Nat, j ≤ q ∧ iv = .int .i64 j ∧ tot = .int .i64 (sumN (X.take j)) ∧ Below w4.heap.size w4 wr) (fun _ iv _ => q - (intOf iv).toNat)
        case atStart => exact ⟨0, Nat.zero_le _, rfl, rfl, Below.refl _ _⟩
        case round =>
          obtain ⟨j, hj, rfl, rfl, hb⟩ := hrel
          by_cases hlt2 : j < q
          · have hjX : j < X.length := by have := HQ.out; omega
            have hT := H5.out.1.below hb
            have ho := own39_below H5.out.2.1 hb
            unfold Own39 at ho
            rw [HQ.out] at ho
            obtain ⟨g, rfl, hgl, c0, c1⟩ := own39_cell ho HQ.out j hjX
            have hmem : X[j] ∈ X := List.getElem_mem hjX
            have hst := sumN_take X j hjX
            have hv := H5.out.2.2.2.2 _ hmem
            have hpre := sumN_pre (a := X.take j) (xs := X) (List.take_prefix _ _) (fun e he => (H5.out.2.2.2.2 e he).1)
            have hget : (getN ordI X[j].1 X).getD 0 = X[j].2 := by rw [getN_up X[j].1 X[j].2 X H5.out.2.2.2.1 hmem]; rfl
            obtain ⟨x, hx⟩ : ∃ x, X[j] = x := ⟨_, rfl⟩
            simp only [hx] at c0 c1 hst hv hget
            clear hx hmem
            obtain ⟨S, hS⟩ : ∃ S, sumN (X.take j) = S := ⟨_, rfl⟩
            rw [hS] at hst hpre ⊢
            have hwr : IntKind.i64.wrap (S + x.2) = sumN (X.take (j + 1)) := by rw [hst]; exact IntWalk.i64_in _ (by have := HSM.out; omega)
            have hji : (j : Int) < q := by omega
            obtain ⟨W, hW⟩ : ∃ W, wr.alloc (.cells #[.int .i64 x.1, .int .i64 x.2] 29) = W := ⟨_, rfl⟩
            obtain ⟨N, hN⟩ : ∃ N, wr.heap.size = N := ⟨_, rfl⟩
            have hba : Below wr.heap.size wr W := by rw [← hW]; exact (Below.refl _ _).alloc (Nat.le_refl _) _
            have hBN : Blk W N 29 #[.int .i64 x.1, .int .i64 x.2] := by rw [← hW, ← hN]; exact Blk.new _ _ _
            have hTW := hT.below hba
            have hbW := hb.trans (hba.mono hb.size)
            have k0 : ∀ m : Held (Aft W), (HeldW m).cell? ⟨N, 0, none⟩ = some (.int .i64 x.1) := fun m => (Aft.cell m hBN.lt).trans (hBN.cell 0)
            have k1 : ∀ m : Held (Aft W), (HeldW m).cell? ⟨N, 1, none⟩ = some (.int .i64 x.2) := fun m => (Aft.cell m hBN.lt).trans (hBN.cell 1)
            have HO := Lib.hid (fun m : Held (Aft W) => (by
              have := statOf_any (HeldW m) tb bm X x.1 (hTW.below (HeldW_spec m)) (by rw [HQ.out]; omega)
              rw [hget] at this
              exact this : Calls Tryd.prog 9 #[.pointer (some ⟨tb, 0, none⟩), .int .i64 x.1] (HeldW m) fun e w' => e = .returned (.int .i64 x.2) ∧ Below (HeldW m).heap.size (HeldW m) w'))
            have HBW := Lib.hid hbW
            have HWN := Lib.hid (And.intro hW hN)
            have hN0 : W.cell? ⟨N, 1, none⟩ = some (.int .i64 x.2) := hBN.cell 1
            clear hba hBN hTW hbW hT ho hst hpre hS hW hN hb hget hv
            haveI := Aft.some W
            go_upto_region 16 with fail
            rw [HWN.out.1, HWN.out.2]
            refine wp_region_class (Aft W) (by kernel_rfl) (by kernel_rfl) (Aft.start W) ?_
            repeat (go_big_quiet_step (with_reducible exact held_below Aft.keep (HO.out _)))
            refine wpQuiet_nil ?_
            rintro _ ⟨nn, rfl⟩
            have HW := Lib.hid (HBW.out.trans ((HeldW_spec nn : Below W.heap.size W (HeldW nn)).mono HBW.out.size))
            clear k0 k1
            go_wp2_with fail
            go_roundw
            case rel => exact ⟨j + 1, by omega, by go_num, rfl, HW.out⟩
            case measure => simp [intOf]; omega
          · obtain rfl : j = q := by omega
            have hf2 : X.take j = X := List.take_of_length_le (by have := HQ.out; omega)
            rw [hf2]
            clear hf2
            have hT := H5.out.1.below hb
            have ho := own39_below H5.out.2.1 hb
            have hRT := ref39Top_any wr _ X k (own39_slv ho) (by have := HQ.out; omega)
            have H6 := Lib.hid (And.intro hT (And.intro ho (H5.out.2.2.1.trans (hb.mono hs0))))
            have HRT := Lib.hid hRT
            clear hT ho hb hRT
            obtain ⟨S, hS⟩ : ∃ S, sumN X = S := ⟨_, rfl⟩
            rw [hS]
            have HSS := Lib.hid hS; clear hS
            generalize wr = w5 at *
            go_wp2_with fail
            obtain ⟨mm, hmm⟩ : ∃ mm : Nat, m % 50 = (mm : Int) := ⟨(m % 50).toNat, by omega⟩
            have hmm1 : mm < 50 := by omega
            have htm : m.tmod 50 = (mm : Int) := by rw [IntWalk.rem_in m 50 hm0, hmm]
            have hwm : IntKind.i64.wrap (mm : Int) = mm := IntWalk.i64_in _ (by omega)
            have hwm2 : IntKind.u64.wrap (mm : Int) = mm := IntWalk.u64_in _ (by omega)
            clear hmm
            refine HRT.out.mono ?_
            rintro e w6 ⟨r, M, rfl, hP, hU, hslr, hb6⟩
            have HTP := Lib.hid (top39_any w6 tb bm X k (mm : Int) (H6.out.1.below hb6) (by have := HQ.out; omega) M hP hU)
            have hRl : ((M.map Prod.fst).take (max 0 (min k M.length)).toNat).length ≤ 40 := by
              have h1 : M.length = j := by rw [hP.length_eq, List.length_zipIdx, HQ.out]
              rw [List.length_take, List.length_map]; omega
            generalize (M.map Prod.fst).take (max 0 (min k M.length)).toNat = R at *
            obtain ⟨A5, c5, rfl, hc5, hcm5, hs5⟩ := hslr
            obtain ⟨p, hp⟩ : ∃ p, R.length = p := ⟨_, rfl⟩
            rw [hp] at hc5 hRl ⊢
            have HP := Lib.hid (And.intro hp (And.intro hcm5 hs5)); clear hp hcm5 hs5 hP hU
            have H7 := Lib.hid (And.intro (H6.out.1.below hb6) (And.intro (own39_below H6.out.2.1 hb6) (And.intro (H6.out.2.2.trans (hb6.mono H6.out.2.2.size)) hb6)))
            clear hb6
            go_wp2_with fail
            refine HTP.out.mono ?_
            rintro e w7 ⟨u, rfl, hu7, hb7⟩
            rw [Int.toNat_natCast] at hu7
            obtain ⟨s, hs⟩ : ∃ s, min p mm = s := ⟨_, rfl⟩
            have hsI : min (p : Int) (mm : Int) = (s : Int) := by omega
            have hRs : R.take mm = R.take s := by
              rw [← hs, ← HP.out.1]
              rcases Nat.le_total R.length mm with h | h
              · rw [Nat.min_eq_left h, List.take_of_length_le h, List.take_of_length_le (Nat.le_refl _)]
              · rw [Nat.min_eq_right h]
            rw [hRs] at hu7
            have hsp : s ≤ p := by omega
            have hsl8 : SlV w7 2 eCII (.slice A5 s c5) (R.take s) := ⟨A5, c5, by rw [List.length_take, HP.out.1]; congr 1; omega, by rw [List.length_take, HP.out.1]; omega, HP.out.2.1, (HP.out.2.2.below hb7 (Nat.le_refl _)).take s⟩
            have HSA := Lib.hid (ref39Same_yes w7 u (.slice A5 s c5) (R.take s) (own39_slv hu7) hsl8)
            have hsc : (s : Int) ≤ c5 := by omega
            have H8 := Lib.hid (And.intro (H7.out.1.below hb7) (And.intro (own39_below H7.out.2.1 hb7) (H7.out.2.2.1.trans (hb7.mono H7.out.2.2.1.size))))
            clear hu7 hb7 hs hRs hsl8
            go_upto_region 21 with fail
            go_wp2_with fail
            refine HSA.out.mono ?_
            rintro e w8 ⟨rfl, d, rfl⟩
            have hd8 : Below w7.heap.size w7 (w7.drewN d) := below_drewN (Below.refl _ _) d
            have HTO := Lib.hid (statTotal_any (w7.drewN d) tb bm X (H8.out.1.below hd8) (by have := HQ.out; omega) (fun e he => (H5.out.2.2.2.2 e he).1) (by have := HSM.out; omega))
            rw [HSS.out] at HTO
            have H9 := Lib.hid (And.intro (H8.out.1.below hd8) (And.intro (own39_below H8.out.2.1 hd8) (H8.out.2.2.trans (hd8.mono H8.out.2.2.size))))
            clear hd8 H8 HSA
            go_wp2_with fail
            refine HTO.out.mono ?_
            rintro e w9 ⟨rfl, hb9⟩
            have HLN := Lib.hid (statLen_any w9 tb bm X (H9.out.1.below hb9))
            rw [HQ.out] at HLN
            have HB9 := Lib.hid (H9.out.2.2.trans (hb9.mono H9.out.2.2.size)); clear hb9
            go_wp2_with fail
            refine HLN.out.mono ?_
            rintro e w10 ⟨rfl, hb10⟩
            have HLV := Lib.hid (lives39 w10)
            have HB10 := Lib.hid (HB9.out.trans (hb10.mono HB9.out.size)); clear hb10
            go_wp2_with fail
            refine HLV.out.mono ?_
            rintro e w11 ⟨rfl, hb11⟩
            have HB11 := Lib.hid (HB10.out.trans (hb11.mono HB10.out.size)); clear hb11
            go_wp2_with fail
            go_ret
            exact ⟨rfl, HB11.out⟩
end Go.Proofs.YtlogdionhgabdaaDoor
