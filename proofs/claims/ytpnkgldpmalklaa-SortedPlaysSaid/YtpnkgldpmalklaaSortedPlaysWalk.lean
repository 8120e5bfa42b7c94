/- The walk of SortedPlays. -/
import Derived.Test.YtpnkgldpmalklaaSrtLives
import Derived.Test.YtpnkgldpmalklaaSrtKeysIS
set_option linter.unusedVariables false
set_option linter.unusedSimpArgs false
namespace Sw
open Go Go.RowKit
/-- a step -/
structure Stp where
  kind : Int
  key : Int
  txt : ByteArray
def stpC (s : Stp) : List Value := [.int .u64 s.kind, .int .i64 s.key, .string s.txt]
def StpIn (s : Stp) : Prop := 0 ≤ s.kind ∧ s.kind < 18446744073709551616
/-- the entries from a key on -/
def behL (a : Int) (l : List EnS) : List EnS := l.filter fun e => decide (a ≤ e.1)
theorem behL_drop (a : Int) : ∀ (l : List EnS), Up ordI l → behL a l = l.drop (lbN ordI a l)
  | [], _ => rfl
  | e :: l, hu => by
    unfold behL lbN
    by_cases hc : e.1 < a
    · rw [if_pos ((ordI_lt _ _).2 hc), List.filter_cons_of_neg (by simp; omega), List.drop_succ_cons]
      exact behL_drop a l hu.tail
    · rw [if_neg (by rw [ordI_lt]; exact hc), List.drop_zero]
      refine List.filter_eq_self.2 fun x hx => ?_
      rw [List.mem_cons] at hx
      rcases hx with rfl | hx
      · simp; omega
      · have := (ordI_lt _ _).1 (hu.head x hx); simp; omega
theorem behL_step (a : Int) (l : List EnS) (i : Nat) (h : i < l.length) : behL a (l.take (i + 1)) = if a ≤ l[i].1 then behL a (l.take i) ++ [l[i]] else behL a (l.take i) := by
  rw [List.take_succ_eq_append_getElem h]
  unfold behL
  rw [List.filter_append]
  by_cases hk : a ≤ l[i].1
  · rw [if_pos hk, List.filter_cons_of_pos (by simpa using hk)]; simp
  · rw [if_neg hk, List.filter_cons_of_neg (by simpa using hk)]; simp
theorem rev_step (l : List EnS) (i : Nat) (h : i < l.length) : l.reverse.take (i + 1) = l.reverse.take i ++ [l[l.length - 1 - i]] := by
  rw [List.take_succ_eq_append_getElem (by simpa using h), List.getElem_reverse]
theorem get_refs (k : Int) (xs : List EnS) (h : Up ordI xs) : ((refGetL k xs).map (·.2)).getD ⟨#[]⟩ = (getN ordI k xs).getD ⟨#[]⟩ ∧ (refGetL k xs).isSome = inN ordI k xs := by
  have h1 := refGet_eq k xs h
  refine ⟨by rw [h1], ?_⟩
  rw [← get_some (c := ordI) k xs, ← h1, Option.isSome_map]
end Sw
namespace Go.Proofs.Ytpnkgldpmalklaa
open Go Go.ChangeShapes Go.WideShapes Go.ChangeAt Go.RowKit Go.Shelf
open Sw
theorem own_sl {w : World} {base : Nat} {e : TypeId} {size n : Nat} {v : Value} {xs : List Value} (h : w.ownsRow base e size v n xs) : ∃ A m c, v = .slice A m c := by
  obtain ⟨A, c, h, _⟩ := SlV_of_any h
  exact ⟨A, n, c, h⟩
theorem slv_cut {w : World} {size : Nat} {α : Type} {E : α → List Value} {A : Option Addr} {n c : Nat} {l : List α} (h : SlV w size E (.slice A n c) l) (j : Nat) (hj : j ≤ n) : SlV w size E (.slice A j c) (l.take j) := by
  obtain ⟨A', c', hv, h1, h2, h3⟩ := h
  obtain ⟨rfl, rfl, rfl⟩ : A = A' ∧ n = l.length ∧ c = c' := by injection hv with e1 e2 e3; exact ⟨e1, e2, e3⟩
  exact ⟨A, c, by rw [List.length_take, Nat.min_eq_left hj], by rw [List.length_take]; omega, h2, h3.take j⟩
set_option maxRecDepth 100000 in
set_option maxHeartbeats 16000000 in
theorem sortedPlays_main (w : World) (A : Option Addr) (n c : Nat) (l : List Stp) (fr most : Int) (hl : l.length = n) (hnc : n ≤ c) (hcm : c ≤ maxLen) (hsl : SlOf w 3 stpC A l) (hin : ∀ s ∈ l, StpIn s) (hm0 : 0 ≤ most) (hm1 : most < 18446744073709551616) :
    Calls Try.prog 3 #[.slice A n c, .int .i64 fr, .int .u64 most] w fun e w' => e = .returned (.bool true) ∧ Below w.heap.size w w' := by
  unfold maxLen at hcm
  by_cases h40 : n ≤ 40
  · have HL := Lib.hid hl; clear hl
    have HS := Lib.hid hsl; clear hsl
    have HIN := Lib.hid hin; clear hin
    have h40I : ¬ (40 : Int) < n := by omega
    have HN := Lib.hid (srtNewIS_any w)
    go_enter Try.func3, Try.ntmps3
    go_wp2_with fail
    refine HN.out.mono ?_
    rintro e w1 ⟨bm, rfl, hm, hbm, hb1⟩
    have HM1 := Lib.hid (And.intro hm hb1); clear hm hb1
    go_wp2_with fail
    go_loopw [8, 35] (fun xv iv wr => ∃ (i : Nat) (xs : List EnS), i ≤ n ∧ iv = .int .i64 i ∧ SMapIS wr bm xs ∧ xs.length ≤ i ∧ Own15 wr w.heap.size xv xs ∧ Below w.heap.size w wr) (fun _ iv _ => n - (intOf iv).toNat)
    case atStart => exact ⟨0, [], Nat.zero_le _, rfl, HM1.out.1, Nat.le_refl _, World.ownsRow_nil _ _ _ _, HM1.out.2⟩
    case round =>
      obtain ⟨i, xs, hi, rfl, hm, hxl, ho, hb⟩ := hrel
      obtain ⟨Ax, cx, rfl, hxc1, hxc2, _⟩ := SlV_of_any ho
      unfold maxLen at hxc2
      have HM := Lib.hid hm; clear hm
      have HO := Lib.hid ho; clear ho
      have HB := Lib.hid hb; clear hb
      by_cases hlt : i < n
      · have hiL : i < l.length := by have := HL.out; omega
        have hin := HIN.out l[i] (List.getElem_mem hiL)
        obtain ⟨b, off, rfl, hbb, hcs⟩ := (HS.out.below HB.out (Nat.le_refl _)) (by omega)
        have c0 := hcs i hiL 0 (by omega)
        have c1 := hcs i hiL 1 (by omega)
        have c2 := hcs i hiL 2 (by omega)
        simp only [stpC, List.getElem?_cons_succ, List.getElem?_cons_zero, Nat.add_zero] at c0 c1 c2
        clear hcs
        have hi1 : (i : Int) < n := by omega
        obtain ⟨kd, key, txt, hst⟩ : ∃ (kd key : Int) (txt : ByteArray), l[i] = ⟨kd, key, txt⟩ := ⟨_, _, _, rfl⟩
        rw [hst] at hin
        simp only [hst] at c0 c1 c2
        clear hst
        obtain ⟨k0, k1⟩ := hin
        simp only at k0 k1
        obtain ⟨j, hj, hmin⟩ : ∃ j : Nat, j ≤ txt.size ∧ min (txt.size : Int) 50 = j := ⟨min txt.size 50, by omega, by omega⟩
        have hj1 : (j : Int) ≤ txt.size := by omega
        obtain ⟨W0, hW0⟩ : ∃ W0, wr.alloc (.cells #[.int .u64 kd, .int .i64 key, .string txt] 30) = W0 := ⟨_, rfl⟩
        have hbx := Blk.new wr 30 #[.int .u64 kd, .int .i64 key, .string txt]
        have hbw : Below wr.heap.size wr (wr.alloc (.cells #[.int .u64 kd, .int .i64 key, .string txt] 30)) := (Below.refl _ _).alloc (Nat.le_refl _) _
        rw [hW0] at hbx hbw
        have hm0' := HM.out.below hbw
        have ho0 := HO.out.below hbw
        have hb0 := HB.out.trans (hbw.mono HB.out.size)
        obtain ⟨hr1, hr2⟩ := get_refs key xs HM.out.up
        have HG := ref15Get_any W0 (.slice Ax xs.length cx) xs key ho0.slv
        rw [hr1, hr2] at HG
        have HG := Lib.hid HG
        have hl0 : xs.length ≤ 40 := by omega
        have HGT := Lib.hid (fun W (h : SMapIS W bm xs) => srtGetIS_any W bm xs key h (by omega) (trivial : okI key))
        have HPT := Lib.hid (fun W v (h : SMapIS W bm xs) => srtPutIS_any W bm xs key v h (by omega) (trivial : okI key))
        have HDR := Lib.hid (fun W (h : SMapIS W bm xs) => srtDropIS_any W bm xs key h (by omega) (trivial : okI key))
        have HRP := Lib.hid (fun W v (h : Own15 W w.heap.size (.slice Ax xs.length cx) xs) => (by
          have := ref15Put_any W (.slice Ax xs.length cx) xs key v h.slv (by omega)
          rw [refPut_eq key v xs HM.out.up] at this
          exact this : Calls Try.prog 16 #[.slice Ax xs.length cx, .int .i64 key, .string v] W fun e w' => ∃ r, e = .returned r ∧ Own15 w' W.heap.size r (putN ordI key v xs) ∧ Below W.heap.size W w'))
        have HRD := Lib.hid (fun W (h : Own15 W w.heap.size (.slice Ax xs.length cx) xs) => (by
          have := ref15Drop_any W (.slice Ax xs.length cx) xs key h.slv (by omega)
          rw [refDrop_eq key xs HM.out.up] at this
          exact this : Calls Try.prog 19 #[.slice Ax xs.length cx, .int .i64 key] W fun e w' => ∃ r, e = .returned r ∧ Own15 w' W.heap.size r (dropN ordI key xs) ∧ Below W.heap.size W w'))
        have hpl := put_len (c := ordI) key (txt.extract 0 j) xs
        have hdl := dropN_len (c := ordI) key xs
        have HQ := Lib.hid (And.intro hm0' (And.intro ho0 (And.intro hb0 hbx))); clear hm0' ho0 hb0 hbw hr1 hr2
        generalize (getN ordI key xs).getD ⟨#[]⟩ = S at *
        generalize inN ordI key xs = bb at *
        have hpl2 : (putN ordI key (txt.extract 0 j) xs).length ≤ xs.length + 1 := by rw [hpl]; split <;> omega
        clear hpl
        have x1 := hbx.cell 1
        have x2 := hbx.cell 2
        have x0 := hbx.cell 0
        simp at x0 x1 x2
        have HW0 := Lib.hid hW0; clear hW0 hbx
        go_wp2_with fail
        rw [HW0.out]
        refine HG.out.mono ?_
        rintro e w2 ⟨rfl, hb2⟩
        have hm2 := HQ.out.1.below hb2
        have ho2 := HQ.out.2.1.below hb2
        have hb2' := HQ.out.2.2.1.trans (hb2.mono HQ.out.2.2.1.size)
        have hbx2 := HQ.out.2.2.2.below hb2 HQ.out.2.2.2.lt
        have y0 := hbx2.cell 0
        have y1 := hbx2.cell 1
        have y2 := hbx2.cell 2
        simp at y0 y1 y2
        have H2 := Lib.hid (And.intro hm2 (And.intro ho2 (And.intro hb2' hbx2))); clear hm2 ho2 hb2 hb2' hbx2 x0 x1 x2
        have hbb1 : ((!bb) == bb) = false := by cases bb <;> rfl
        have hbb2 : (bb != bb) = false := by simp
        by_cases q0 : kd % 3 = 0
        · have e0 : (kd % 3 == 0) = true := by rw [beq_iff_eq]; exact q0
          clear q0
          go_wp2_with fail
          refine (HPT.out w2 (txt.extract 0 j) H2.out.1).mono ?_
          rintro e w3 ⟨rfl, hm3, hg3⟩
          have ho3 := H2.out.2.1.grown H2.out.1 hg3
          have hb3 := below_grown H2.out.2.2.1 hg3 hbm H2.out.2.2.1.size
          have hbx3 := H2.out.2.2.2.grown hg3 (by
            obtain ⟨u, hu, _⟩ := H2.out.1.row
            simpa using Blk.other H2.out.2.2.2 hu (by decide))
          have z1 := hbx3.cell 1
          simp at z1
          have HP4 := Lib.hid (HRP.out w3 (txt.extract 0 j) ho3)
          have H3 := Lib.hid (And.intro hm3 hb3); clear hm3 hg3 ho3 hb3 hbx3
          go_wp2_with fail
          refine HP4.out.mono ?_
          rintro e w4 ⟨u, rfl, ho4, hb4⟩
          have hm5 := H3.out.1.below hb4
          have ho5 := own_wide ho4 (show w.heap.size ≤ w3.heap.size from H3.out.2.size)
          have hb5 := H3.out.2.trans (hb4.mono H3.out.2.size)
          clear ho4 hb4
          have HM5 := Lib.hid hm5; clear hm5
          have HO5 := Lib.hid ho5; clear ho5
          have HB5 := Lib.hid hb5; clear hb5
          obtain ⟨A5, c5, rfl, _, _, _⟩ := SlV_of_any HO5.out
          go_wp2_with fail
          refine (srtLenIS_any _ bm _ HM5.out).mono ?_
          rintro e _ ⟨rfl, rfl⟩
          go_wp2_with fail
          go_roundw
          case rel => exact ⟨i + 1, _, by omega, by go_num, HM5.out, by omega, HO5.out, HB5.out⟩
          case measure => simp [intOf]; omega
        · have e0 : (kd % 3 == 0) = false := by rw [beq_eq_false_iff_ne]; exact q0
          by_cases q1 : kd % 3 = 1
          · have e1 : (kd % 3 == 1) = true := by rw [beq_iff_eq]; exact q1
            clear q0 q1
            have hss : (S.toList == S.toList) = true := by simp
            have hss2 : (S.toList != S.toList) = false := by simp
            go_wp2_with fail
            refine (HGT.out w2 H2.out.1).mono ?_
            rintro e w4 ⟨rfl, hb4⟩
            have HM5 := Lib.hid (H2.out.1.below hb4)
            have HO5 := Lib.hid (H2.out.2.1.below hb4)
            have HB5 := Lib.hid (H2.out.2.2.1.trans (hb4.mono H2.out.2.2.1.size))
            clear hb4
            go_wp2_with fail
            refine (srtLenIS_any _ bm _ HM5.out).mono ?_
            rintro e _ ⟨rfl, rfl⟩
            go_wp2_with fail
            go_roundw
            case rel => exact ⟨i + 1, _, by omega, by go_num, HM5.out, by omega, HO5.out, HB5.out⟩
            case measure => simp [intOf]; omega
          · have e1 : (kd % 3 == 1) = false := by rw [beq_eq_false_iff_ne]; exact q1
            clear q0 q1
            go_wp2_with fail
            refine (HDR.out w2 H2.out.1).mono ?_
            rintro e w3 ⟨rfl, hm3, hg3⟩
            have ho3 := H2.out.2.1.grown H2.out.1 hg3
            have hb3 := below_grown H2.out.2.2.1 hg3 hbm H2.out.2.2.1.size
            have hbx3 := H2.out.2.2.2.grown hg3 (by
              obtain ⟨u, hu, _⟩ := H2.out.1.row
              simpa using Blk.other H2.out.2.2.2 hu (by decide))
            have z1 := hbx3.cell 1
            simp at z1
            have HP4 := Lib.hid (HRD.out w3 ho3)
            have H3 := Lib.hid (And.intro hm3 hb3); clear hm3 hg3 ho3 hb3 hbx3
            go_wp2_with fail
            refine HP4.out.mono ?_
            rintro e w4 ⟨u, rfl, ho4, hb4⟩
            have hm5 := H3.out.1.below hb4
            have ho5 := own_wide ho4 (show w.heap.size ≤ w3.heap.size from H3.out.2.size)
            have hb5 := H3.out.2.trans (hb4.mono H3.out.2.size)
            clear ho4 hb4
            have HM5 := Lib.hid hm5; clear hm5
            have HO5 := Lib.hid ho5; clear ho5
            have HB5 := Lib.hid hb5; clear hb5
            obtain ⟨A5, c5, rfl, _, _, _⟩ := SlV_of_any HO5.out
            go_wp2_with fail
            refine (srtLenIS_any _ bm _ HM5.out).mono ?_
            rintro e _ ⟨rfl, rfl⟩
            go_wp2_with fail
            go_roundw
            case rel => exact ⟨i + 1, _, by omega, by go_num, HM5.out, by omega, HO5.out, HB5.out⟩
            case measure => simp [intOf]; omega
      · obtain rfl : i = n := by omega
        obtain ⟨wo, rfl⟩ : ∃ wo : World, wo = wr := ⟨_, rfl⟩
        clear hlt
        have hl0 : xs.length ≤ 40 := by omega
        go_wp2_with fail
        go_loopw [16, 17, 18, 105] (fun bh bk _ iv wr => ∃ (i : Nat), i ≤ xs.length ∧ iv = .int .i64 i ∧ Two wr wo.heap.size 40 2 bh (behL fr (xs.take i)).length ((behL fr (xs.take i)).flatMap eCIS) bk i ((xs.reverse.take i).flatMap eCIS) ∧ Below wo.heap.size wo wr) (fun _ _ _ iv _ => xs.length - (intOf iv).toNat)
        case atStart => exact ⟨0, Nat.zero_le _, rfl, ⟨World.ownsRow_nil _ _ _ _, World.ownsRow_nil _ _ _ _, .inl rfl⟩, Below.refl _ _⟩
        case round =>
          obtain ⟨k, hk, rfl, hT, hb2⟩ := hrel
          by_cases hkl : k < xs.length
          · obtain ⟨j, hj⟩ : ∃ j : Nat, (xs.length : Int) - 1 - k = j := ⟨xs.length - 1 - k, by omega⟩
            have hjl : j < xs.length := by omega
            have hst1 := behL_step fr xs k hkl
            have hst2 := rev_step xs k hkl
            have hjx : xs.length - 1 - k = j := by omega
            simp only [hjx] at hst2
            obtain ⟨Ay, cy, hAy, _, _, hsx⟩ := HO.out.slv
            obtain ⟨rfl, rfl⟩ : Ax = Ay ∧ cx = cy := by injection hAy with e1 e2 e3; exact ⟨e1, e3⟩
            obtain ⟨gx, ox, rfl, hlx, hcx⟩ := hsx (by omega)
            have d0 := hcx j hjl 0 (by omega)
            have d1 := hcx j hjl 1 (by omega)
            have d2 := hcx k hkl 0 (by omega)
            have d3 := hcx k hkl 1 (by omega)
            simp only [eCIS, List.getElem?_cons_succ, List.getElem?_cons_zero, Nat.add_zero] at d0 d1 d2 d3
            have e0 := (hb2.cell (p := ⟨gx, ox + j * 2, none⟩) hlx).trans d0
            have e1 := (hb2.cell (p := ⟨gx, ox + j * 2 + 1, none⟩) hlx).trans d1
            have e2 := (hb2.cell (p := ⟨gx, ox + k * 2, none⟩) hlx).trans d2
            clear hcx hsx hAy
            have hk1 : (k : Int) < xs.length := by omega
            have hj1 : (j : Int) < xs.length := by omega
            have hbl : (behL fr (xs.take k)).length ≤ k := Nat.le_trans (List.length_filter_le _ _) (by rw [List.length_take]; omega)
            obtain ⟨y, hy⟩ : ∃ y, xs[j] = y := ⟨_, rfl⟩
            obtain ⟨z, hz⟩ : ∃ z, xs[k] = z := ⟨_, rfl⟩
            rw [hy] at hst2
            rw [hz] at hst1
            simp only [hy] at e0 e1
            simp only [hz] at e2 d2 d3
            clear d0 d1
            clear hy hz hjx
            obtain ⟨Av, cv, rfl, _, _, _⟩ := SlV_of_any hT.a
            obtain ⟨Au, cu, rfl, _, _, _⟩ := SlV_of_any hT.b
            have HT := Lib.hid hT; clear hT
            have hbs2 := hb2.size
            have HB2 := Lib.hid hb2; clear hb2
            have HST := Lib.hid (And.intro hst1 hst2)
            generalize behL fr (xs.take k) = L1 at *
            generalize xs.reverse.take k = L2 at *
            obtain ⟨m1, hm1⟩ : ∃ m1, L1.length = m1 := ⟨_, rfl⟩
            rw [hm1] at HT hbl ⊢
            have HM1L := Lib.hid hm1; clear hm1
            by_cases hz : fr ≤ z.1
            · rw [if_pos hz] at hst1
              have HS1 := Lib.hid (And.intro hst1 hst2); clear hst1 hst2 HST
              go_wp2_with (first | (at_builtin; refine wpList_app rfl _ _ 28 rfl wo.heap.size 40 (.agg #[.int .i64 0, .string ⟨#[]⟩]) 2 24 Try.underlying28 infoE15 rfl (by decide) _ k _ rfl (HT.out.b.alloc _) wr.heap.size 1 #[.int .i64 y.1, .string y.2] 40 rfl (Blk.new _ _ _) rfl (by simp [Value.oneCell']) (by omega) (by decide) (by simp; omega) _ rfl ?_; intro g cap w3 hown1 hgrow1 hat hlt1; have hT3 := (HT.out.kept ((Below.refl _ wr).alloc (Nat.le_refl _) (.cells #[.int .i64 y.1, .string y.2] 40))).right hown1 hgrow1 hat; have hb3 := own_below HT.out.b (HB2.out.alloc HB2.out.size (.cells #[.int .i64 y.1, .string y.2] 40)) hgrow1 (Nat.le_refl _) (by simp; omega); have f2 := (hb3.cell (p := ⟨gx, ox + k * 2, none⟩) hlx).trans d2; have f3 := (hb3.cell (p := ⟨gx, ox + k * 2 + 1, none⟩) hlx).trans d3; have hw3s := hb3.size; clear e0 e1 e2) | (at_builtin; refine wpList_app rfl _ _ 28 rfl wo.heap.size 40 (.agg #[.int .i64 0, .string ⟨#[]⟩]) 2 24 Try.underlying28 infoE15 rfl (by decide) _ m1 _ rfl (hT3.a.alloc _) w3.heap.size 1 #[.int .i64 z.1, .string z.2] 40 rfl (Blk.new _ _ _) rfl (by simp [Value.oneCell']) (by omega) (by decide) (by simp; omega) _ rfl ?_; intro g2 cap2 w4 hown2 hgrow2 hat2 hlt2))
              have hT4 := (hT3.kept ((Below.refl _ w3).alloc (Nat.le_refl _) (.cells #[.int .i64 z.1, .string z.2] 40))).left hown2 hgrow2 hat2
              have hb4 := own_below hT3.a (hb3.alloc hb3.size (.cells #[.int .i64 z.1, .string z.2] 40)) hgrow2 (Nat.le_refl _) (by simp; omega)
              have HN := Lib.hid (And.intro hT4 hb4); clear hT4 hb4 hT3 hb3 hown1 hgrow1 hat hown2 hgrow2 hat2
              go_wp2_with fail
              go_roundw
              case rel =>
                refine ⟨k + 1, by omega, by go_num, ?_, HN.out.2⟩
                rw [HS1.out.1, HS1.out.2, List.length_append, List.length_singleton, HM1L.out, List.flatMap_append, List.flatMap_append]
                simpa [eCIS] using HN.out.1
              case measure => simp [intOf]; omega
            · rw [if_neg hz] at hst1
              have HS1 := Lib.hid (And.intro hst1 hst2); clear hst1 hst2 HST
              go_wp2_with (at_builtin; refine wpList_app rfl _ _ 28 rfl wo.heap.size 40 (.agg #[.int .i64 0, .string ⟨#[]⟩]) 2 24 Try.underlying28 infoE15 rfl (by decide) _ k _ rfl (HT.out.b.alloc _) wr.heap.size 1 #[.int .i64 y.1, .string y.2] 40 rfl (Blk.new _ _ _) rfl (by simp [Value.oneCell']) (by omega) (by decide) (by simp; omega) _ rfl ?_; intro g cap w3 hown1 hgrow1 hat hlt1; have hT3 := (HT.out.kept ((Below.refl _ wr).alloc (Nat.le_refl _) (.cells #[.int .i64 y.1, .string y.2] 40))).right hown1 hgrow1 hat; have hb3 := own_below HT.out.b (HB2.out.alloc HB2.out.size (.cells #[.int .i64 y.1, .string y.2] 40)) hgrow1 (Nat.le_refl _) (by simp; omega); have f2 := (hb3.cell (p := ⟨gx, ox + k * 2, none⟩) hlx).trans d2; have f3 := (hb3.cell (p := ⟨gx, ox + k * 2 + 1, none⟩) hlx).trans d3; have hw3s := hb3.size; clear e0 e1 e2)
              have HN := Lib.hid (And.intro hT3 hb3); clear hT3 hb3 hown1 hgrow1 hat
              go_wp2_with fail
              go_roundw
              case rel =>
                refine ⟨k + 1, by omega, by go_num, ?_, HN.out.2⟩
                rw [HS1.out.1, HS1.out.2, HM1L.out, List.flatMap_append]
                simpa [eCIS] using HN.out.1
              case measure => simp [intOf]; omega
          · obtain rfl : k = xs.length := by omega
            have hbe := behL_drop fr xs HM.out.up
            rw [List.take_length, List.take_of_length_le (l := xs.reverse) (by rw [List.length_reverse]; exact Nat.le_refl _), hbe] at hT
            obtain ⟨q, hq⟩ : ∃ q : Nat, most % 50 = q := ⟨(most % 50).toNat, by omega⟩
            have hq50 : q < 50 := by omega
            obtain ⟨Ab, cb, rfl, hb1c, hb2c, _⟩ := SlV_of_any hT.a
            obtain ⟨Ac, cc, rfl, hc1c, hc2c, _⟩ := SlV_of_any hT.b
            unfold maxLen at hb2c hc2c
            have hm2 := HM.out.below hb2
            have hdl : (xs.drop (lbN ordI fr xs)).length ≤ xs.length := by rw [List.length_drop]; omega
            obtain ⟨nb, hnb⟩ : ∃ nb, (xs.drop (lbN ordI fr xs)).length = nb := ⟨_, rfl⟩
            have H2 := Lib.hid (And.intro hm2 (And.intro hT hb2)); clear hm2 hT hb2 hkl hbe
            have HNB := Lib.hid hnb
            rw [hnb] at hdl hb1c
            obtain ⟨j1, hj1⟩ : ∃ j1 : Nat, min (q : Int) xs.length = j1 := ⟨min q xs.length, by omega⟩
            obtain ⟨j2, hj2⟩ : ∃ j2 : Nat, min (q : Int) nb = j2 := ⟨min q nb, by omega⟩
            have hj1l : j1 ≤ xs.length := by omega
            have hj2l : j2 ≤ nb := by omega
            have htk1 : xs.take q = xs.take j1 := by
              by_cases h : q ≤ xs.length
              · have : j1 = q := by omega
                rw [this]
              · rw [List.take_of_length_le (by omega), List.take_of_length_le (by omega)]
            have htk2 : (xs.drop (lbN ordI fr xs)).take q = (xs.drop (lbN ordI fr xs)).take j2 := by
              by_cases h : q ≤ nb
              · have : j2 = q := by omega
                rw [this]
              · rw [List.take_of_length_le (by omega), List.take_of_length_le (by omega)]
            have htk3 : xs.reverse.take q = xs.reverse.take j1 := by
              by_cases h : q ≤ xs.length
              · have : j1 = q := by omega
                rw [this]
              · rw [List.take_of_length_le (by rw [List.length_reverse]; omega), List.take_of_length_le (by rw [List.length_reverse]; omega)]
            rw [hnb]
            clear hnb
            have HTK := Lib.hid (And.intro htk1 (And.intro htk2 htk3)); clear htk1 htk2 htk3
            go_wp2_with fail
            refine (srtAllIS_any _ bm xs H2.out.1).mono ?_
            rintro e w3 ⟨gb, v, rfl, hgb, hL, hge, hvb, hb3⟩
            have HA := Lib.hid (all15_any w3 gb v xs q hgb hL hvb (by omega))
            have H3 := Lib.hid hb3; clear hgb hL hge hvb hb3
            go_wp2_with fail
            refine HA.out.mono ?_
            rintro e w4 ⟨ua, rfl, hoa, hb4⟩
            obtain ⟨Aa, na, ca, rfl⟩ := own_sl hoa
            have H4 := Lib.hid (H3.out.trans (hb4.mono H3.out.size)); clear hb4 H3 HA
            have HOA := Lib.hid hoa; clear hoa
            go_wp2_with fail
            refine (srtFromIS_any _ bm xs fr (H2.out.1.below H4.out) (by omega) (trivial : okI fr)).mono ?_
            rintro e w5 ⟨gb, v, rfl, hgb, hL, hge, hvb, hb5⟩
            have HA := Lib.hid (all15_any w5 gb v _ q hgb hL hvb (by rw [HNB.out]; omega))
            have H5 := Lib.hid (H4.out.trans (hb5.mono H4.out.size))
            have HOA5 := Lib.hid (HOA.out.below hb5); clear hgb hL hge hvb hb5 HOA
            go_wp2_with fail
            refine HA.out.mono ?_
            rintro e w6 ⟨ub, rfl, hob, hb6⟩
            obtain ⟨Abb, nbb, cbb, rfl⟩ := own_sl hob
            have H6 := Lib.hid (H5.out.trans (hb6.mono H5.out.size))
            have HOA6 := Lib.hid (HOA5.out.below hb6)
            have HOB6 := Lib.hid hob; clear hob hb6 HA HOA5
            go_wp2_with fail
            refine (srtBackIS_any _ bm xs (H2.out.1.below H6.out) (by omega)).mono ?_
            rintro e w7 ⟨gb, v, rfl, hgb, hL, hge, hvb, hb7⟩
            have HA := Lib.hid (all15_any w7 gb v _ q hgb hL hvb (by rw [List.length_reverse]; omega))
            have H7 := Lib.hid (H6.out.trans (hb7.mono H6.out.size))
            have HOA7 := Lib.hid (HOA6.out.below hb7)
            have HOB7 := Lib.hid (HOB6.out.below hb7); clear hgb hL hge hvb hb7 HOA6 HOB6
            go_wp2_with fail
            refine HA.out.mono ?_
            rintro e w8 ⟨uc, rfl, hoc, hb8⟩
            obtain ⟨Acc, ncc, ccc, rfl⟩ := own_sl hoc
            have H8 := Lib.hid (H7.out.trans (hb8.mono H7.out.size))
            have HOA8 := Lib.hid (HOA7.out.below hb8)
            have HOB8 := Lib.hid (HOB7.out.below hb8)
            have HOC8 := Lib.hid hoc; clear hoc hb8 HA HOA7 HOB7
            go_wp2_with fail
            refine (keysIS_any _ bm xs (H2.out.1.below H8.out) (by omega)).mono ?_
            rintro e w9 ⟨uk, rfl, hok, hb9⟩
            have H9 := Lib.hid (H8.out.trans (hb9.mono H8.out.size))
            have HOA9 := Lib.hid (HOA8.out.below hb9)
            have HOB9 := Lib.hid (HOB8.out.below hb9)
            have HOC9 := Lib.hid (HOC8.out.below hb9); clear hb9 HOA8 HOB8 HOC8
            obtain ⟨Ak, ck, rfl, _, _, _⟩ := SlV_of_any hok
            have HOK := Lib.hid hok; clear hok
            have HX9 := Lib.hid (HO.out.below (H2.out.2.2.trans (H9.out.mono H2.out.2.2.size)))
            have HBH := Lib.hid (own_kept H2.out.2.1.a H9.out)
            have HBK := Lib.hid (own_kept H2.out.2.1.b H9.out)
            have HFB := Lib.hid (HB.out.trans ((H2.out.2.2.trans (H9.out.mono H2.out.2.2.size)).mono HB.out.size))
            go_wp2_with fail
            go_loopw [27, 163] (fun _ iv w10 => ∃ k mm : Nat, k ≤ xs.length ∧ iv = .int .i64 k ∧ w10 = w9.drewN mm) (fun _ iv _ => xs.length - (intOf iv).toNat)
            case atStart => exact ⟨0, 0, Nat.zero_le _, rfl, rfl⟩
            case round =>
              obtain ⟨k, mm, hk, rfl, rfl⟩ := hrel
              by_cases hkl : k < xs.length
              · obtain ⟨Ay, cy, hAy, _, _, hsx⟩ := HX9.out.slv
                obtain ⟨rfl, rfl⟩ : Ax = Ay ∧ cx = cy := by injection hAy with e1 e2 e3; exact ⟨e1, e3⟩
                obtain ⟨gx, ox, rfl, hlx, hcx⟩ := hsx (by omega)
                have d0 := hcx k hkl 0 (by omega)
                simp only [eCIS, List.getElem?_cons_zero, Nat.add_zero] at d0
                obtain ⟨gk, capk, curk, hAk, _, _, _, _, _, _⟩ := own_form HOK.out (by omega)
                obtain ⟨rfl, rfl⟩ : Ak = some ⟨gk, 0, none⟩ ∧ ck = capk := by injection hAk with e1 e2 e3; exact ⟨e1, e3⟩
                have d1 := HOK.out.cells (g := gk) rfl k (.int .i64 xs[k].1) (by rw [List.getElem?_map, List.getElem?_eq_getElem hkl]; rfl)
                rw [add_mk, Nat.zero_add] at d1
                clear hcx hsx hAy hAk
                generalize xs[k].1 = x0 at *
                have hk0 : (0 : Int) ≤ k := by omega
                have hk1 : (k : Int) < xs.length := by omega
                have hk2 : ¬ (xs.length : Int) ≤ k := by omega
                go_wp2_with fail
                go_quiet (fail)
                go_wp2_with fail
                go_roundw
                case rel => exact ⟨k + 1, _, by omega, by go_num, rfl⟩
                case measure => simp [intOf]; omega
              · obtain rfl : k = xs.length := by omega
                clear hkl hk
                have hd : Below w9.heap.size w9 (w9.drewN mm) := below_drewN (Below.refl _ _) mm
                have S1 := Lib.hid (fun W (h : Below w9.heap.size w9 W) => ref15Same_yes W _ (.slice Ax j1 cx) (xs.take q) ((HOA9.out.below h).slv) (by rw [HTK.out.1]; exact slv_cut (HX9.out.below h).slv j1 hj1l))
                have S2 := Lib.hid (fun W (h : Below w9.heap.size w9 W) => ref15Same_yes W _ (.slice Ab j2 cb) ((xs.drop (lbN ordI fr xs)).take q) ((HOB9.out.below h).slv) (by rw [HTK.out.2.1]; exact slv_cut (SlV.of_own (own_kept HBH.out h) eCIS_len (by decide)) j2 (by rw [HNB.out]; exact hj2l)))
                have S3 := Lib.hid (fun W (h : Below w9.heap.size w9 W) => ref15Same_yes W _ (.slice Ac j1 cc) (xs.reverse.take q) ((HOC9.out.below h).slv) (by rw [HTK.out.2.2]; exact slv_cut (SlV.of_own (own_kept HBK.out h) eCIS_len (by decide)) j1 hj1l))
                have HD := Lib.hid hd; clear hd
                have r1 : (j1 : Int) ≤ cx := by omega
                have r2 : (j2 : Int) ≤ cb := by omega
                have r3 : (j1 : Int) ≤ cc := by omega
                go_wp2_with fail
                with_reducible refine (S1.out _ HD.out).mono ?_
                rintro e wa ⟨rfl, ma, hwa⟩
                have HDa := Lib.hid (show Below w9.heap.size w9 wa by rw [hwa]; exact below_drewN HD.out ma); clear hwa
                go_wp2_with fail
                with_reducible refine (S2.out _ HDa.out).mono ?_
                rintro e wb ⟨rfl, mb, hwb⟩
                have HDb := Lib.hid (show Below w9.heap.size w9 wb by rw [hwb]; exact below_drewN HDa.out mb); clear hwb
                go_wp2_with fail
                with_reducible refine (S3.out _ HDb.out).mono ?_
                rintro e wc ⟨rfl, mc, hwc⟩
                have HDc := Lib.hid (show Below w9.heap.size w9 wc by rw [hwc]; exact below_drewN HDb.out mc); clear hwc
                go_wp2_with fail
                refine (lives15 _).mono ?_
                rintro e wd ⟨rfl, hbd⟩
                have hfin := HFB.out.trans (HDc.out.mono HFB.out.size)
                have HFIN := Lib.hid (hfin.trans (hbd.mono hfin.size)); clear hfin hbd
                go_wp2_with fail
                go_ret
                exact ⟨rfl, HFIN.out⟩
  · have h40I : (40 : Int) < n := by omega
    go_enter Try.func3, Try.ntmps3
    go_wp2_with fail
    refine (lives15 _).mono ?_
    rintro e w1 ⟨rfl, hb1⟩
    go_wp2_with fail
    go_ret
    exact ⟨rfl, hb1⟩
set_option maxRecDepth 100000 in
theorem dec_stp {H : Type} {enc : TypeId × Value → H} {w : World} (fuel : Nat) (cs : List Value) (x : DataW H × List MemPlace) (h : DataW.trod enc Try.prog w 0 (fun _ => true) true fuel 30 cs = some x) :
    ∃ t : Stp, cs = stpC t ∧ StpIn t := by
  obtain ⟨hl, hf⟩ := dec_fields Try.underlying30 (by kernel_rfl) (by kernel_rfl) h
  match cs, hl with
  | [c0, c1, c2], _ =>
    obtain ⟨v0, n0, y0, e0, h0⟩ := hf 0 _ rfl
    obtain ⟨v1, n1, y1, e1, h1⟩ := hf 1 _ rfl
    obtain ⟨v2, n2, y2, e2, h2⟩ := hf 2 _ rfl
    simp at e0 e1 e2
    subst e0 e1 e2
    obtain ⟨k, ek, _, wk⟩ := DataW.trod_int Try.underlying23 h0
    obtain ⟨m, em, _, wm⟩ := DataW.trod_int Try.underlying3 h1
    obtain ⟨q, eq, _, wq⟩ := DataW.trod_string Try.underlying9 h2
    simp at ek em eq
    subst ek em eq
    obtain ⟨k0, k1⟩ := bounds_u64 wk
    exact ⟨⟨k, m, q⟩, rfl, k0, by show k < 18446744073709551616; omega⟩
set_option maxRecDepth 100000 in
theorem sortedPlays_walk : Walks 3 Try.f3 := by
  intro H enc W base args ds ps hval hA hlt hsz
  rw [Try.params3] at hA hval
  obtain ⟨v0, v1, v2, d0, d1, d2, p0, p1, p2, rfl, rfl, rfl, h0, h1, h2⟩ := trodAll_three hA
  obtain ⟨A, n, c, l, rfl, hnc, hcm, hl, hsl, hv, _⟩ := open_slice_dec (size := 3) stpC StpIn Try.underlying22 (by kernel_rfl) (by omega) dec_stp (hval 0 22 v0 rfl rfl) h0
  obtain ⟨a, rfl, rfl, rfl, wa⟩ := open_int Try.underlying3 (hval 1 3 v1 rfl rfl) h1
  obtain ⟨m, rfl, rfl, rfl, wm⟩ := open_int Try.underlying23 (hval 2 23 v2 rfl rfl) h2
  obtain ⟨m0, m1⟩ := bounds_u64 wm
  exact sortedPlays_main W A n c l a m hl hnc hcm hsl hv m0 (by omega)
end Go.Proofs.Ytpnkgldpmalklaa
