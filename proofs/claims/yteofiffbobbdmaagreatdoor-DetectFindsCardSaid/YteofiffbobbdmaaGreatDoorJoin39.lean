/- Several texts, joined for the limit of sixty files; each one opens with its own comment. -/
import Derived.Test.YteofiffbobbdmaaGreatDoorJoin24
import Derived.Test.YteofiffbobbdmaaGreatDoorJoin33
import Derived.Test.YteofiffbobbdmaaGreatDoorJoin34
import Derived.Test.YteofiffbobbdmaaGreatDoorJoin35
import Derived.Test.YteofiffbobbdmaaGreatDoorJoin38
/- DetectFinds. -/
set_option linter.unusedVariables false
set_option linter.unusedSimpArgs false
namespace Sw
open Go
theorem stateN_four (was : Pr) (had : Bool) (n : Nd) : stateN was had n = 0 ∨ stateN was had n = 1 ∨ stateN was had n = 2 ∨ stateN was had n = 3 := by
  unfold stateN
  split
  · split
    · exact .inl rfl
    · exact .inr (.inl rfl)
  · split
    · exact .inl rfl
    · split
      · exact .inr (.inr (.inr rfl))
      · exact .inr (.inr (.inl rfl))
theorem allP_four {L : List MkE} {xs : List NE} {f : ByteArray × Int} (h : f ∈ allP L xs) : f.2 = ofP L xs f.1 ∧ (f.2 = 0 ∨ f.2 = 1 ∨ f.2 = 2 ∨ f.2 = 3) := by
  unfold allP at h
  obtain ⟨p, _, rfl⟩ := List.mem_map.1 h
  exact ⟨rfl, stateN_four _ _ _⟩
theorem allP_path {L : List MkE} {xs : List NE} {f : ByteArray × Int} (h : f ∈ allP L xs) : f.1 ∈ L.map Prod.fst ++ xs.map Prod.fst := by
  unfold allP at h
  obtain ⟨p, hp, rfl⟩ := List.mem_map.1 h
  exact (pathsS_mem _ _).1 hp
/-- those that changed -/
def chg (F : List (ByteArray × Int)) : List (ByteArray × Int) := F.filter fun f => !decide (f.2 = 0)
theorem chg_step (F : List (ByteArray × Int)) (i : Nat) (h : i < F.length) : chg (F.take (i + 1)) = chg (F.take i) ++ if F[i].2 = 0 then [] else [F[i]] := by
  unfold chg
  rw [List.take_succ_eq_append_getElem h, List.filter_append]
  congr 1
  by_cases h0 : F[i].2 = 0
  · rw [if_pos h0, List.filter_cons_of_neg (by simp [h0]), List.filter_nil]
  · rw [if_neg h0, List.filter_cons_of_pos (by simp [h0]), List.filter_nil]
theorem chg_le (F : List (ByteArray × Int)) : (chg F).length ≤ F.length := List.length_filter_le _ _
end Sw
namespace Go.Proofs.YteofiffbobbdmaaGreatDoor
open Go Go.RowKit
open Sw
theorem flat_sE : ∀ (l : List ByteArray), l.flatMap sE = l.map Value.string
  | [] => rfl
  | x :: l => by rw [List.flatMap_cons, List.map_cons, flat_sE l]; rfl
/-- the Base and the counts lie in their places -/
def FnC (G C : Nat) (bs cs : Array Value) (W : World) : Prop := Blk W G 24 bs ∧ Blk W C 34 cs
theorem FnC.below {G C : Nat} {bs cs : Array Value} {A B : World} (h : FnC G C bs cs A) (hb : Below A.heap.size A B) : FnC G C bs cs B := ⟨h.1.below hb h.1.lt, h.2.below hb h.2.lt⟩
theorem below_drewN' {w W' : World} {n : Nat} (h : W' = w.drewN n) : Below w.heap.size w W' := by rw [h]; exact below_drewN (Below.refl _ _) _
/-- what the loop has counted -/
def FnI (C : Nat) (wB : World) (o : Value) (F : List FdE) (W : World) : Prop :=
  Blk W C 34 #[.int .i64 (cntF 0 F), .int .i64 (cntF 1 F), .int .i64 (cntF 2 F), .int .i64 (cntF 3 F)] ∧ OwnF29 W wB.heap.size o (chg F) ∧ Below wB.heap.size wB W
theorem FnI.below {C : Nat} {wB : World} {o : Value} {F : List FdE} {W W' : World} (h : FnI C wB o F W) (hb : Below W.heap.size W W') : FnI C wB o F W' := ⟨h.1.below hb h.1.lt, own_kept h.2.1 hb, h.2.2.trans (hb.mono h.2.2.size)⟩
set_option maxRecDepth 100000 in
set_option maxHeartbeats 16000000 in
theorem detectFinds_main (w : World) (u1 u2 : Value) (l1 l2 : List MkE) (h1 : SlV w 6 eCM u1 l1) (h2 : SlV w 6 eCM u2 l2) (hin1 : ∀ m ∈ l1, 0 ≤ m.2.time ∧ m.2.time < 4294967296) (hin2 : ∀ m ∈ l2, 0 ≤ m.2.time ∧ m.2.time < 4294967296)
    (v1 v2 : Value) (xs ys : List NE) (g1 : SlV w 5 eCSN v1 xs) (g2 : SlV w 5 eCSN v2 ys) (hx : ∀ x ∈ xs, x.1.size ≤ maxLen ∧ NdIn x.2) (hy : ∀ x ∈ ys, x.1.size ≤ maxLen ∧ NdIn x.2) :
    Calls Tryz.prog 3 #[.agg #[u1, u2], v1, v2] w fun e w' => e = .returned (.bool true) ∧ Below w.heap.size w w' := by
  obtain ⟨W, hW⟩ : ∃ W, w.alloc (.cells #[u1, u2] 24) = W := ⟨_, rfl⟩
  have hb0 : Below w.heap.size w W := by rw [← hW]; exact (Below.refl _ w).alloc (Nat.le_refl _) _
  have hB0 : Blk W w.heap.size 24 #[u1, u2] := by rw [← hW]; exact Blk.new w _ _
  have HLI := Lib.hid (fun W' (hb : Below w.heap.size w W') => light29_any W' u1 u2 l1 l2 (h1.below hb (Nat.le_refl _)) (h2.below hb (Nat.le_refl _)) hin1 hin2 v1 xs (g1.below hb (Nat.le_refl _)) hx)
  have HLJ := Lib.hid (fun W' (hb : Below w.heap.size w W') => light29_any W' u1 u2 l1 l2 (h1.below hb (Nat.le_refl _)) (h2.below hb (Nat.le_refl _)) hin1 hin2 v2 ys (g2.below hb (Nat.le_refl _)) hy)
  have HS := Lib.hid (And.intro (And.intro h1 h2) (And.intro (And.intro g1 g2) (And.intro hx hy)))
  clear hin1 hin2 hx hy
  obtain ⟨A1, c1, rfl, _, _, _⟩ := h1
  obtain ⟨A2, c2, rfl, _, _, _⟩ := h2
  obtain ⟨A3, c3, rfl, _, _, _⟩ := g1
  obtain ⟨A4, c4, rfl, _, _, _⟩ := g2
  obtain ⟨n1, hn1⟩ : ∃ n, l1.length = n := ⟨_, rfl⟩
  obtain ⟨n2, hn2⟩ : ∃ n, l2.length = n := ⟨_, rfl⟩
  obtain ⟨n3, hn3⟩ : ∃ n, xs.length = n := ⟨_, rfl⟩
  obtain ⟨n4, hn4⟩ : ∃ n, ys.length = n := ⟨_, rfl⟩
  have HL := Lib.hid (And.intro (And.intro hn1 hn2) (And.intro hn3 hn4))
  rw [hn1, hn2, hn3] at HLI
  rw [hn1, hn2, hn4] at HLJ
  rw [hn1, hn2, hn3, hn4] at HS
  rw [hn1, hn2] at hW hB0
  rw [hn1, hn2, hn3, hn4]
  clear hn1 hn2 hn3 hn4
  have x0 := hB0.cell 0
  have x1 := hB0.cell 1
  simp at x0 x1
  obtain ⟨G, hG⟩ : ∃ G, w.heap.size = G := ⟨_, rfl⟩
  rw [hG] at hB0 x0 x1
  have HW := Lib.hid (And.intro hW (And.intro hb0 (And.intro hB0 hG))); clear hW hb0 hB0
  go_enter Tryz.func3, Tryz.ntmps3
  go_upto_region 1 with fail
  rw [HW.out.1]
  clear hG
  go_wp2_with fail
  refine (HLI.out W HW.out.2.1).mono ?_
  rintro e w1 ⟨⟨R, rfl, hR⟩, hb1⟩
  have H1 := Lib.hid (And.intro (HW.out.2.1.trans (hb1.mono HW.out.2.1.size)) (And.intro (HW.out.2.2.1.below hb1 HW.out.2.2.1.lt) hR)); clear hb1 hR HLI x0 x1
  cases R with
  | false =>
    go_wp2_with fail
    refine (detect_lives _).mono ?_
    rintro e w2 ⟨rfl, hb2⟩
    have H2 := Lib.hid (H1.out.1.trans (hb2.mono H1.out.1.size)); clear hb2
    go_wp2_with fail
    go_ret
    exact ⟨rfl, H2.out⟩
  | true =>
    have x0 := H1.out.2.1.cell 0
    have x1 := H1.out.2.1.cell 1
    simp at x0 x1
    go_wp2_with fail
    refine (HLJ.out w1 H1.out.1).mono ?_
    rintro e w2 ⟨⟨R, rfl, hR⟩, hb2⟩
    have H2 := Lib.hid (And.intro (H1.out.1.trans (hb2.mono H1.out.1.size)) (And.intro (H1.out.2.1.below hb2 H1.out.2.1.lt) hR)); clear hb2 hR HLJ x0 x1
    cases R with
    | false =>
      go_wp2_with fail
      refine (detect_lives _).mono ?_
      rintro e w3 ⟨rfl, hb3⟩
      have H3 := Lib.hid (H2.out.1.trans (hb3.mono H2.out.1.size)); clear hb3
      go_wp2_with fail
      go_ret
      exact ⟨rfl, H3.out⟩
    | true =>
      obtain ⟨⟨hl1, hl2, hmz⟩, hxl, hxs, hxp⟩ := H1.out.2.2 (by first | rfl | trivial)
      obtain ⟨-, hyl, hys, hyp⟩ := H2.out.2.2 (by first | rfl | trivial)
      have HLL := Lib.hid (And.intro (And.intro hl1 hl2) (And.intro hmz (And.intro hxl hyl)))
      have HTX := Lib.hid (ti_of_puts (by rw [hxp] : (putsT [] xs).2 = xs))
      have HTY := Lib.hid (ti_of_puts (by rw [hyp] : (putsT [] ys).2 = ys))
      have HPX := Lib.hid (show (∀ x ∈ xs, x.1.size ≤ 90000) ∧ (∀ x ∈ xs, x.2.data.size ≤ maxLen) from ⟨fun x hx => by have := (hxs x hx).1; omega, fun x hx => by have := (hxs x hx).2; unfold maxLen; omega⟩)
      have HPY := Lib.hid (show (∀ x ∈ ys, x.1.size ≤ 90000) ∧ (∀ x ∈ ys, x.2.data.size ≤ maxLen) from ⟨fun x hx => by have := (hys x hx).1; omega, fun x hx => by have := (hys x hx).2; unfold maxLen; omega⟩)
      have HT1 := Lib.hid (fun W' (hb : Below w.heap.size w W') => treeOf_any W' (.slice A3 n3 c3) xs (HS.out.2.1.1.below hb (Nat.le_refl _)) (by omega) (fun x hx => ⟨HPX.out.1 x hx, (HS.out.2.2.1 x hx).2⟩) HTX.out)
      have HT2 := Lib.hid (fun W' (hb : Below w.heap.size w W') => treeOf_any W' (.slice A4 n4 c4) ys (HS.out.2.1.2.below hb (Nat.le_refl _)) (by omega) (fun x hx => ⟨HPY.out.1 x hx, (HS.out.2.2.2 x hx).2⟩) HTY.out)
      clear hl1 hl2 hmz hxl hxs hxp hyl hys hyp
      go_wp2_with fail
      refine (HT1.out w2 H2.out.1).mono ?_
      rintro e w3 ⟨bt, bm, rfl, hT, -, -, hb3⟩
      have H3 := Lib.hid (And.intro (H2.out.1.trans (hb3.mono H2.out.1.size)) (And.intro (H2.out.2.1.below hb3 H2.out.2.1.lt) hT)); clear hb3 hT HT1
      go_wp2_with fail
      refine (HT2.out w3 H3.out.1).mono ?_
      rintro e w4 ⟨bt2, bm2, rfl, hT2, -, -, hb4⟩
      have H4 := Lib.hid (And.intro (H3.out.1.trans (hb4.mono H3.out.1.size)) (And.intro (H3.out.2.1.below hb4 H3.out.2.1.lt) (And.intro (H3.out.2.2.below hb4) hT2))); clear hb4 hT2 HT2
      have x0 := H4.out.2.1.cell 0
      have x1 := H4.out.2.1.cell 1
      simp at x0 x1
      have hZ : ∀ m ∈ l1 ++ l2, m.1.size ≤ 90000 := fun m hm => by have := HLL.out.2.1 m hm; omega
      have HZ := Lib.hid hZ
      have HAL := Lib.hid (refAllP_any w4 (.slice A1 n1 c1) (.slice A2 n2 c2) l1 l2 (HS.out.1.1.below H4.out.1 (Nat.le_refl _)) (HS.out.1.2.below H4.out.1 (Nat.le_refl _)) (by have := HLL.out.1.1; omega) (by have := HLL.out.1.2; omega) hZ (.slice A3 n3 c3) xs (HS.out.2.1.1.below H4.out.1 (Nat.le_refl _)) (by have := HLL.out.2.2.1; omega) HPX.out.1 HTX.out.up HPX.out.2)
      clear hZ
      have hfl : (allP (l1 ++ l2) xs).length ≤ 100 := by
        unfold allP
        rw [List.length_map]
        refine Nat.le_trans (pathsS_len _) ?_
        rw [List.length_append, List.length_map, List.length_map, List.length_append]
        have := HLL.out
        omega
      obtain ⟨F, hF⟩ : ∃ F, allP (l1 ++ l2) xs = F := ⟨_, rfl⟩
      rw [hF] at HAL hfl
      obtain ⟨n, hn⟩ : ∃ n, F.length = n := ⟨_, rfl⟩
      rw [hn] at hfl
      have HF := Lib.hid (And.intro hF hn); clear hF hn
      go_wp2_with fail
      refine HAL.out.mono ?_
      rintro e w5 ⟨⟨u, rfl, ho⟩, hb5⟩
      have hslF := ho.slv
      unfold OwnF29 at ho
      rw [HF.out.2] at ho
      obtain ⟨A5, c5, rfl, hc5, -, -⟩ := SlV_of_any ho
      have H5 := Lib.hid (And.intro (H4.out.1.trans (hb5.mono H4.out.1.size)) (And.intro (H4.out.2.1.below hb5 H4.out.2.1.lt) (And.intro (H4.out.2.2.1.below hb5) (And.intro (H4.out.2.2.2.below hb5) hslF)))); clear hb5 ho hslF HAL x0 x1
      have hba : Below w5.heap.size w5 (w5.alloc (.cells #[.int .i64 0, .int .i64 0, .int .i64 0, .int .i64 0] 34)) := (Below.refl _ w5).alloc (Nat.le_refl _) _
      have hBC : Blk (w5.alloc (.cells #[.int .i64 0, .int .i64 0, .int .i64 0, .int .i64 0] 34)) w5.heap.size 34 #[.int .i64 0, .int .i64 0, .int .i64 0, .int .i64 0] := Blk.new _ _ _
      have H6 := Lib.hid (show FnI w5.heap.size w5 (.slice none 0 0) [] _ from ⟨hBC, World.ownsRow_nil _ _ _ _, hba⟩)
      clear hba hBC
      go_wp2_with fail
      go_loopw [14, 47] (fun o iv wr => ∃ i : Nat, i ≤ n ∧ iv = .int .i64 i ∧ FnI w5.heap.size w5 o (F.take i) wr) (fun _ iv _ => n - (intOf iv).toNat)
      case atStart => exact ⟨0, Nat.zero_le _, rfl, by simpa using H6.out⟩
      case round =>
        obtain ⟨i, hi, rfl, hI⟩ := hrel
        by_cases hlt : i < n
        · have hiF : i < F.length := by have := HF.out.2; omega
          obtain ⟨A', c', hA, _, _, hso⟩ := H5.out.2.2.2.2.below hI.2.2 (Nat.le_refl _)
          obtain ⟨rfl, -, rfl⟩ : A5 = A' ∧ n = F.length ∧ c5 = c' := by simpa using hA
          clear hA
          obtain ⟨b, off, rfl, hbb, hcs⟩ := hso (by omega)
          have d0 := hcs i hiF 0 (by omega)
          have d1 := hcs i hiF 1 (by omega)
          simp only [eCFD, List.getElem?_cons_succ, List.getElem?_cons_zero, Nat.add_zero] at d0 d1
          clear hcs hso hbb
          have hi1 : (i : Int) < n := by omega
          have hmem : F[i] ∈ allP (l1 ++ l2) xs := by rw [HF.out.1]; exact List.getElem_mem hiF
          have hfour := allP_four hmem
          have hpz : F[i].1.size ≤ 90000 := by
            rcases List.mem_append.1 (allP_path hmem) with h | h
            · obtain ⟨m, hm, he⟩ := List.mem_map.1 h
              rw [← he]
              exact HZ.out m hm
            · obtain ⟨m, hm, he⟩ := List.mem_map.1 h
              rw [← he]
              exact HPX.out.1 m hm
          have e0 := cntF_step 0 F i hiF
          have e1 := cntF_step 1 F i hiF
          have e2 := cntF_step 2 F i hiF
          have e3 := cntF_step 3 F i hiF
          have ec := chg_step F i hiF
          have b0 := cntF_le 0 (F.take i)
          have b1 := cntF_le 1 (F.take i)
          have b2 := cntF_le 2 (F.take i)
          have b3 := cntF_le 3 (F.take i)
          have bc := chg_le (F.take i)
          rw [List.length_take] at b0 b1 b2 b3 bc
          obtain ⟨⟨p, st⟩, hx⟩ : ∃ x, F[i] = x := ⟨_, rfl⟩
          simp only [hx] at d0 d1 hfour hpz e0 e1 e2 e3 ec
          obtain ⟨hof, hfour⟩ := hfour
          clear hx hmem
          have hba : Below wr.heap.size wr (wr.alloc (.cells #[.string p, .int .i64 st] 36)) := (Below.refl _ wr).alloc (Nat.le_refl _) _
          have hCN : w5.heap.size < wr.heap.size := hI.1.lt
          have hIa := hI.below hba
          have hne := own_ne hI.2.1 wr.heap.size (Nat.le_refl _)
          have hBN : Blk (wr.alloc (.cells #[.string p, .int .i64 st] 36)) wr.heap.size 36 #[.string p, .int .i64 st] := Blk.new _ _ _
          obtain ⟨hB, ho, hbd⟩ := hIa
          clear hI hba
          generalize cntF 0 (F.take i) = a0 at *
          generalize cntF 1 (F.take i) = a1 at *
          generalize cntF 2 (F.take i) = a2 at *
          generalize cntF 3 (F.take i) = a3 at *
          obtain ⟨S, hS⟩ : ∃ S, chg (F.take i) = S := ⟨_, rfl⟩
          rw [hS] at ho ec bc
          have hSl : OwnF29 (wr.alloc (.cells #[.string p, .int .i64 st] 36)) w5.heap.size _ S := ho
          unfold OwnF29 at ho
          obtain ⟨m, hm⟩ : ∃ m, S.length = m := ⟨_, rfl⟩
          rw [hm] at ho bc
          obtain ⟨A6, c6, rfl, -, -, -⟩ := SlV_of_any ho
          have x0 := hB.cell 0
          have x1 := hB.cell 1
          have x2 := hB.cell 2
          have x3 := hB.cell 3
          simp at x0 x1 x2 x3
          have f0 := hB.frozen 0
          have f1 := hB.frozen 1
          have f2 := hB.frozen 2
          have f3 := hB.frozen 3
          have HR := Lib.hid (And.intro hB (And.intro ho (And.intro hbd hBN)))
          have HM := Lib.hid hm
          have HNE := Lib.hid hne
          clear hne
          have HOF := Lib.hid hof
          clear hof
          clear hB ho hbd hBN hS hSl hm
          rcases hfour with rfl | rfl | rfl | rfl
          · simp only [if_pos, reduceIte, Int.reduceEq, Int.add_zero] at e0 e1 e2 e3 ec
            have hwr : IntKind.i64.wrap (a0 + 1) = a0 + 1 := IntWalk.i64_in _ (by omega)
            have HE := Lib.hid (And.intro (And.intro e0 (And.intro e1 (And.intro e2 e3))) ec)
            clear e0 e1 e2 e3 ec
            go_upto_region 12 with fail
            have hg2 := grown_put (grown_refl (wr.alloc (.cells #[.string p, .int .i64 0] 36)) (some w5.heap.size)) 0 (.int .i64 (a0 + 1))
            have hB2 := HR.out.1.put 0 (.int .i64 (a0 + 1))
            have ho2 := HR.out.2.1.kept hg2 (.inr (own_ne_blk HR.out.2.1 HR.out.1 (by decide)))
            have hbd2 := HR.out.2.2.1.setCell (p := ⟨w5.heap.size, 0, none⟩) (Nat.le_refl _) (.int .i64 (a0 + 1))
            have hN2 := HR.out.2.2.2.grown hg2 (fun e => (by have e' : wr.heap.size = w5.heap.size := (by simpa using e); omega))
            clear x0 x1 x2 x3 f0 f1 f2 f3 hg2
            have hcomm : (wr.alloc (.cells #[.string p, .int .i64 0] 36)).setCell ⟨w5.heap.size, 0, none⟩ (.int .i64 (a0 + 1)) = (wr.setCell ⟨w5.heap.size, 0, none⟩ (.int .i64 (a0 + 1))).alloc (.cells #[.string p, .int .i64 0] 36) := by first | go_simp | (simp [World.setCell, hCN]; done)
            rw [hcomm] at hB2 ho2 hbd2 hN2
            clear hcomm
            generalize (wr.setCell ⟨w5.heap.size, 0, none⟩ (.int .i64 (a0 + 1))).alloc (.cells #[.string p, .int .i64 0] 36) = W2 at *
            obtain ⟨N, hN⟩ : ∃ N, wr.heap.size = N := ⟨_, rfl⟩
            rw [hN] at hN2
            have HNN := Lib.hid (hN ▸ HNE.out : (Value.slice A6 m c6).ownBlock ≠ some N)
            have H7 := Lib.hid (And.intro hB2 (And.intro ho2 (And.intro hbd2 hN2)))
            have hbs7 : w5.heap.size ≤ W2.heap.size := hbd2.size
            clear hB2 ho2 hbd2
            have y0 := hN2.cell 0
            have y1 := hN2.cell 1
            simp at y0 y1
            clear hN2
            go_upto_region 14 with fail
            have hIN : FnI w5.heap.size w5 _ (F.take (i + 1)) W2 ∧ Blk W2 N 36 #[.string p, .int .i64 0] := ⟨⟨by rw [HE.out.1.1, HE.out.1.2.1, HE.out.1.2.2.1, HE.out.1.2.2.2]; exact H7.out.1, by unfold OwnF29; rw [HE.out.2, List.append_nil, HM.out]; exact H7.out.2.1, H7.out.2.2.1⟩, H7.out.2.2.2⟩
            generalize W2 = W3 at *
            have HIN := Lib.hid hIN; clear hIN
            have hwW := H5.out.1.trans (HIN.out.1.2.2.mono H5.out.1.size)
            have k0 : ∀ m : Held (Aft W3), (HeldW m).cell? ⟨N, 0, none⟩ = some (.string p) := fun m => (Aft.cell m HIN.out.2.lt).trans (HIN.out.2.cell 0)
            have k1 : ∀ m : Held (Aft W3), (HeldW m).cell? ⟨N, 1, none⟩ = some (.int .i64 0) := fun m => (Aft.cell m HIN.out.2.lt).trans (HIN.out.2.cell 1)
            have hBG := H5.out.2.1.below HIN.out.1.2.2 H5.out.2.1.lt
            have k2 : ∀ m : Held (Aft W3), (HeldW m).cell? ⟨G, 0, none⟩ = some (.slice A1 n1 c1) := fun m => (Aft.cell m hBG.lt).trans (hBG.cell 0)
            have k3 : ∀ m : Held (Aft W3), (HeldW m).cell? ⟨G, 1, none⟩ = some (.slice A2 n2 c2) := fun m => (Aft.cell m hBG.lt).trans (hBG.cell 1)
            have HCH := Lib.hid (fun m : Held (Aft W3) => (by
              have hbm : Below w.heap.size w (HeldW m) := hwW.trans ((HeldW_spec m : Below W3.heap.size W3 (HeldW m)).mono hwW.size)
              have hb5m : Below w5.heap.size w5 (HeldW m) := HIN.out.1.2.2.trans ((HeldW_spec m : Below W3.heap.size W3 (HeldW m)).mono HIN.out.1.2.2.size)
              have := changed_any (HeldW m) (.slice A1 n1 c1) (.slice A2 n2 c2) l1 l2 bt bm xs p (HS.out.1.1.below hbm (Nat.le_refl _)) (HS.out.1.2.below hbm (Nat.le_refl _)) (by have := HLL.out.1.1; omega) (by have := HLL.out.1.2; omega) (H5.out.2.2.1.below hb5m) (by have := HLL.out.2.2.1; omega) HPX.out.2 hpz
              rw [← HOF.out] at this
              exact this : Calls Tryz.prog 11 #[.agg #[.slice A1 n1 c1, .slice A2 n2 c2], .pointer (some ⟨bt, 0, none⟩), .string p] (HeldW m) fun e w' => e = .returned (.bool false) ∧ Below (HeldW m).heap.size (HeldW m) w'))
            clear hBG hwW y0 y1
            haveI := Aft.some W3
            refine wp_region_class (Aft W3) (by kernel_rfl) (by kernel_rfl) (Aft.start W3) ?_
            repeat (go_big_quiet_step (with_reducible exact held_below Aft.keep (HCH.out _)))
            refine wpQuiet_nil ?_
            rintro _ ⟨nn, rfl⟩
            have HIF := Lib.hid (HIN.out.1.below (HeldW_spec nn : Below W3.heap.size W3 (HeldW nn)))
            clear k0 k1 k2 k3 HCH
            go_wp2_with fail
            go_roundw
            case rel => exact ⟨i + 1, by omega, by go_num, HIF.out⟩
            case measure => simp [intOf]; omega
          · simp only [if_pos, reduceIte, Int.reduceEq, Int.add_zero] at e0 e1 e2 e3 ec
            have hwr : IntKind.i64.wrap (a1 + 1) = a1 + 1 := IntWalk.i64_in _ (by omega)
            have HE := Lib.hid (And.intro (And.intro e0 (And.intro e1 (And.intro e2 e3))) ec)
            clear e0 e1 e2 e3 ec
            go_upto_region 12 with fail
            have hg2 := grown_put (grown_refl (wr.alloc (.cells #[.string p, .int .i64 1] 36)) (some w5.heap.size)) 1 (.int .i64 (a1 + 1))
            have hB2 := HR.out.1.put 1 (.int .i64 (a1 + 1))
            have ho2 := HR.out.2.1.kept hg2 (.inr (own_ne_blk HR.out.2.1 HR.out.1 (by decide)))
            have hbd2 := HR.out.2.2.1.setCell (p := ⟨w5.heap.size, 1, none⟩) (Nat.le_refl _) (.int .i64 (a1 + 1))
            have hN2 := HR.out.2.2.2.grown hg2 (fun e => (by have e' : wr.heap.size = w5.heap.size := (by simpa using e); omega))
            clear x0 x1 x2 x3 f0 f1 f2 f3 hg2
            have hcomm : (wr.alloc (.cells #[.string p, .int .i64 1] 36)).setCell ⟨w5.heap.size, 1, none⟩ (.int .i64 (a1 + 1)) = (wr.setCell ⟨w5.heap.size, 1, none⟩ (.int .i64 (a1 + 1))).alloc (.cells #[.string p, .int .i64 1] 36) := by first | go_simp | (simp [World.setCell, hCN]; done)
            rw [hcomm] at hB2 ho2 hbd2 hN2
            clear hcomm
            generalize (wr.setCell ⟨w5.heap.size, 1, none⟩ (.int .i64 (a1 + 1))).alloc (.cells #[.string p, .int .i64 1] 36) = W2 at *
            obtain ⟨N, hN⟩ : ∃ N, wr.heap.size = N := ⟨_, rfl⟩
            rw [hN] at hN2
            have HNN := Lib.hid (hN ▸ HNE.out : (Value.slice A6 m c6).ownBlock ≠ some N)
            have H7 := Lib.hid (And.intro hB2 (And.intro ho2 (And.intro hbd2 hN2)))
            have hbs7 : w5.heap.size ≤ W2.heap.size := hbd2.size
            clear hB2 ho2 hbd2
            have y0 := hN2.cell 0
            have y1 := hN2.cell 1
            simp at y0 y1
            clear hN2
            go_upto_region 14 with (at_builtin; refine wpList_app rfl _ _ 32 rfl w5.heap.size 36 (.agg #[.string ⟨#[]⟩, .int .i64 0]) 2 24 Tryz.underlying32 infoF29 rfl (by decide) _ m _ rfl (H7.out.2.1.alloc _) W2.heap.size 1 #[.string p, .int .i64 1] 36 rfl (Blk.new _ _ _) rfl (by simp [Value.oneCell']) (by omega) (by decide) (by simp; omega) _ rfl ?_; intro g cap W3 hown1 hgrow1 hat hlt1)
            have hIN : FnI w5.heap.size w5 _ (F.take (i + 1)) W3 ∧ Blk W3 N 36 #[.string p, .int .i64 1] := ⟨⟨by rw [HE.out.1.1, HE.out.1.2.1, HE.out.1.2.2.1, HE.out.1.2.2.2]; exact (H7.out.1.alloc _).grown hgrow1 (fun e => own_ne_blk H7.out.2.1 H7.out.1 (by decide) e.symm), by rw [HE.out.2]; exact OwnF29.app (x := (p, 1)) hown1 HM.out, own_below H7.out.2.1 (H7.out.2.2.1.alloc H7.out.2.2.1.size _) hgrow1 (Nat.le_refl _) (by simp; omega)⟩, (H7.out.2.2.2.alloc _).grown hgrow1 (fun e => HNN.out e.symm)⟩
            clear hown1 hgrow1 hat hlt1
            have HIN := Lib.hid hIN; clear hIN
            have hwW := H5.out.1.trans (HIN.out.1.2.2.mono H5.out.1.size)
            have k0 : ∀ m : Held (Aft W3), (HeldW m).cell? ⟨N, 0, none⟩ = some (.string p) := fun m => (Aft.cell m HIN.out.2.lt).trans (HIN.out.2.cell 0)
            have k1 : ∀ m : Held (Aft W3), (HeldW m).cell? ⟨N, 1, none⟩ = some (.int .i64 1) := fun m => (Aft.cell m HIN.out.2.lt).trans (HIN.out.2.cell 1)
            have hBG := H5.out.2.1.below HIN.out.1.2.2 H5.out.2.1.lt
            have k2 : ∀ m : Held (Aft W3), (HeldW m).cell? ⟨G, 0, none⟩ = some (.slice A1 n1 c1) := fun m => (Aft.cell m hBG.lt).trans (hBG.cell 0)
            have k3 : ∀ m : Held (Aft W3), (HeldW m).cell? ⟨G, 1, none⟩ = some (.slice A2 n2 c2) := fun m => (Aft.cell m hBG.lt).trans (hBG.cell 1)
            have HCH := Lib.hid (fun m : Held (Aft W3) => (by
              have hbm : Below w.heap.size w (HeldW m) := hwW.trans ((HeldW_spec m : Below W3.heap.size W3 (HeldW m)).mono hwW.size)
              have hb5m : Below w5.heap.size w5 (HeldW m) := HIN.out.1.2.2.trans ((HeldW_spec m : Below W3.heap.size W3 (HeldW m)).mono HIN.out.1.2.2.size)
              have := changed_any (HeldW m) (.slice A1 n1 c1) (.slice A2 n2 c2) l1 l2 bt bm xs p (HS.out.1.1.below hbm (Nat.le_refl _)) (HS.out.1.2.below hbm (Nat.le_refl _)) (by have := HLL.out.1.1; omega) (by have := HLL.out.1.2; omega) (H5.out.2.2.1.below hb5m) (by have := HLL.out.2.2.1; omega) HPX.out.2 hpz
              rw [← HOF.out] at this
              exact this : Calls Tryz.prog 11 #[.agg #[.slice A1 n1 c1, .slice A2 n2 c2], .pointer (some ⟨bt, 0, none⟩), .string p] (HeldW m) fun e w' => e = .returned (.bool true) ∧ Below (HeldW m).heap.size (HeldW m) w'))
            clear hBG hwW y0 y1
            haveI := Aft.some W3
            refine wp_region_class (Aft W3) (by kernel_rfl) (by kernel_rfl) (Aft.start W3) ?_
            repeat (go_big_quiet_step (with_reducible exact held_below Aft.keep (HCH.out _)))
            refine wpQuiet_nil ?_
            rintro _ ⟨nn, rfl⟩
            have HIF := Lib.hid (HIN.out.1.below (HeldW_spec nn : Below W3.heap.size W3 (HeldW nn)))
            clear k0 k1 k2 k3 HCH
            go_wp2_with fail
            go_roundw
            case rel => exact ⟨i + 1, by omega, by go_num, HIF.out⟩
            case measure => simp [intOf]; omega
          · simp only [if_pos, reduceIte, Int.reduceEq, Int.add_zero] at e0 e1 e2 e3 ec
            have hwr : IntKind.i64.wrap (a2 + 1) = a2 + 1 := IntWalk.i64_in _ (by omega)
            have HE := Lib.hid (And.intro (And.intro e0 (And.intro e1 (And.intro e2 e3))) ec)
            clear e0 e1 e2 e3 ec
            go_upto_region 12 with fail
            have hg2 := grown_put (grown_refl (wr.alloc (.cells #[.string p, .int .i64 2] 36)) (some w5.heap.size)) 2 (.int .i64 (a2 + 1))
            have hB2 := HR.out.1.put 2 (.int .i64 (a2 + 1))
            have ho2 := HR.out.2.1.kept hg2 (.inr (own_ne_blk HR.out.2.1 HR.out.1 (by decide)))
            have hbd2 := HR.out.2.2.1.setCell (p := ⟨w5.heap.size, 2, none⟩) (Nat.le_refl _) (.int .i64 (a2 + 1))
            have hN2 := HR.out.2.2.2.grown hg2 (fun e => (by have e' : wr.heap.size = w5.heap.size := (by simpa using e); omega))
            clear x0 x1 x2 x3 f0 f1 f2 f3 hg2
            have hcomm : (wr.alloc (.cells #[.string p, .int .i64 2] 36)).setCell ⟨w5.heap.size, 2, none⟩ (.int .i64 (a2 + 1)) = (wr.setCell ⟨w5.heap.size, 2, none⟩ (.int .i64 (a2 + 1))).alloc (.cells #[.string p, .int .i64 2] 36) := by first | go_simp | (simp [World.setCell, hCN]; done)
            rw [hcomm] at hB2 ho2 hbd2 hN2
            clear hcomm
            generalize (wr.setCell ⟨w5.heap.size, 2, none⟩ (.int .i64 (a2 + 1))).alloc (.cells #[.string p, .int .i64 2] 36) = W2 at *
            obtain ⟨N, hN⟩ : ∃ N, wr.heap.size = N := ⟨_, rfl⟩
            rw [hN] at hN2
            have HNN := Lib.hid (hN ▸ HNE.out : (Value.slice A6 m c6).ownBlock ≠ some N)
            have H7 := Lib.hid (And.intro hB2 (And.intro ho2 (And.intro hbd2 hN2)))
            have hbs7 : w5.heap.size ≤ W2.heap.size := hbd2.size
            clear hB2 ho2 hbd2
            have y0 := hN2.cell 0
            have y1 := hN2.cell 1
            simp at y0 y1
            clear hN2
            go_upto_region 14 with (at_builtin; refine wpList_app rfl _ _ 32 rfl w5.heap.size 36 (.agg #[.string ⟨#[]⟩, .int .i64 0]) 2 24 Tryz.underlying32 infoF29 rfl (by decide) _ m _ rfl (H7.out.2.1.alloc _) W2.heap.size 1 #[.string p, .int .i64 2] 36 rfl (Blk.new _ _ _) rfl (by simp [Value.oneCell']) (by omega) (by decide) (by simp; omega) _ rfl ?_; intro g cap W3 hown1 hgrow1 hat hlt1)
            have hIN : FnI w5.heap.size w5 _ (F.take (i + 1)) W3 ∧ Blk W3 N 36 #[.string p, .int .i64 2] := ⟨⟨by rw [HE.out.1.1, HE.out.1.2.1, HE.out.1.2.2.1, HE.out.1.2.2.2]; exact (H7.out.1.alloc _).grown hgrow1 (fun e => own_ne_blk H7.out.2.1 H7.out.1 (by decide) e.symm), by rw [HE.out.2]; exact OwnF29.app (x := (p, 2)) hown1 HM.out, own_below H7.out.2.1 (H7.out.2.2.1.alloc H7.out.2.2.1.size _) hgrow1 (Nat.le_refl _) (by simp; omega)⟩, (H7.out.2.2.2.alloc _).grown hgrow1 (fun e => HNN.out e.symm)⟩
            clear hown1 hgrow1 hat hlt1
            have HIN := Lib.hid hIN; clear hIN
            have hwW := H5.out.1.trans (HIN.out.1.2.2.mono H5.out.1.size)
            have k0 : ∀ m : Held (Aft W3), (HeldW m).cell? ⟨N, 0, none⟩ = some (.string p) := fun m => (Aft.cell m HIN.out.2.lt).trans (HIN.out.2.cell 0)
            have k1 : ∀ m : Held (Aft W3), (HeldW m).cell? ⟨N, 1, none⟩ = some (.int .i64 2) := fun m => (Aft.cell m HIN.out.2.lt).trans (HIN.out.2.cell 1)
            have hBG := H5.out.2.1.below HIN.out.1.2.2 H5.out.2.1.lt
            have k2 : ∀ m : Held (Aft W3), (HeldW m).cell? ⟨G, 0, none⟩ = some (.slice A1 n1 c1) := fun m => (Aft.cell m hBG.lt).trans (hBG.cell 0)
            have k3 : ∀ m : Held (Aft W3), (HeldW m).cell? ⟨G, 1, none⟩ = some (.slice A2 n2 c2) := fun m => (Aft.cell m hBG.lt).trans (hBG.cell 1)
            have HCH := Lib.hid (fun m : Held (Aft W3) => (by
              have hbm : Below w.heap.size w (HeldW m) := hwW.trans ((HeldW_spec m : Below W3.heap.size W3 (HeldW m)).mono hwW.size)
              have hb5m : Below w5.heap.size w5 (HeldW m) := HIN.out.1.2.2.trans ((HeldW_spec m : Below W3.heap.size W3 (HeldW m)).mono HIN.out.1.2.2.size)
              have := changed_any (HeldW m) (.slice A1 n1 c1) (.slice A2 n2 c2) l1 l2 bt bm xs p (HS.out.1.1.below hbm (Nat.le_refl _)) (HS.out.1.2.below hbm (Nat.le_refl _)) (by have := HLL.out.1.1; omega) (by have := HLL.out.1.2; omega) (H5.out.2.2.1.below hb5m) (by have := HLL.out.2.2.1; omega) HPX.out.2 hpz
              rw [← HOF.out] at this
              exact this : Calls Tryz.prog 11 #[.agg #[.slice A1 n1 c1, .slice A2 n2 c2], .pointer (some ⟨bt, 0, none⟩), .string p] (HeldW m) fun e w' => e = .returned (.bool true) ∧ Below (HeldW m).heap.size (HeldW m) w'))
            clear hBG hwW y0 y1
            haveI := Aft.some W3
            refine wp_region_class (Aft W3) (by kernel_rfl) (by kernel_rfl) (Aft.start W3) ?_
            repeat (go_big_quiet_step (with_reducible exact held_below Aft.keep (HCH.out _)))
            refine wpQuiet_nil ?_
            rintro _ ⟨nn, rfl⟩
            have HIF := Lib.hid (HIN.out.1.below (HeldW_spec nn : Below W3.heap.size W3 (HeldW nn)))
            clear k0 k1 k2 k3 HCH
            go_wp2_with fail
            go_roundw
            case rel => exact ⟨i + 1, by omega, by go_num, HIF.out⟩
            case measure => simp [intOf]; omega
          · simp only [if_pos, reduceIte, Int.reduceEq, Int.add_zero] at e0 e1 e2 e3 ec
            have hwr : IntKind.i64.wrap (a3 + 1) = a3 + 1 := IntWalk.i64_in _ (by omega)
            have HE := Lib.hid (And.intro (And.intro e0 (And.intro e1 (And.intro e2 e3))) ec)
            clear e0 e1 e2 e3 ec
            go_upto_region 12 with fail
            have hg2 := grown_put (grown_refl (wr.alloc (.cells #[.string p, .int .i64 3] 36)) (some w5.heap.size)) 3 (.int .i64 (a3 + 1))
            have hB2 := HR.out.1.put 3 (.int .i64 (a3 + 1))
            have ho2 := HR.out.2.1.kept hg2 (.inr (own_ne_blk HR.out.2.1 HR.out.1 (by decide)))
            have hbd2 := HR.out.2.2.1.setCell (p := ⟨w5.heap.size, 3, none⟩) (Nat.le_refl _) (.int .i64 (a3 + 1))
            have hN2 := HR.out.2.2.2.grown hg2 (fun e => (by have e' : wr.heap.size = w5.heap.size := (by simpa using e); omega))
            clear x0 x1 x2 x3 f0 f1 f2 f3 hg2
            have hcomm : (wr.alloc (.cells #[.string p, .int .i64 3] 36)).setCell ⟨w5.heap.size, 3, none⟩ (.int .i64 (a3 + 1)) = (wr.setCell ⟨w5.heap.size, 3, none⟩ (.int .i64 (a3 + 1))).alloc (.cells #[.string p, .int .i64 3] 36) := by first | go_simp | (simp [World.setCell, hCN]; done)
            rw [hcomm] at hB2 ho2 hbd2 hN2
            clear hcomm
            generalize (wr.setCell ⟨w5.heap.size, 3, none⟩ (.int .i64 (a3 + 1))).alloc (.cells #[.string p, .int .i64 3] 36) = W2 at *
            obtain ⟨N, hN⟩ : ∃ N, wr.heap.size = N := ⟨_, rfl⟩
            rw [hN] at hN2
            have HNN := Lib.hid (hN ▸ HNE.out : (Value.slice A6 m c6).ownBlock ≠ some N)
            have H7 := Lib.hid (And.intro hB2 (And.intro ho2 (And.intro hbd2 hN2)))
            have hbs7 : w5.heap.size ≤ W2.heap.size := hbd2.size
            clear hB2 ho2 hbd2
            have y0 := hN2.cell 0
            have y1 := hN2.cell 1
            simp at y0 y1
            clear hN2
            go_upto_region 14 with (at_builtin; refine wpList_app rfl _ _ 32 rfl w5.heap.size 36 (.agg #[.string ⟨#[]⟩, .int .i64 0]) 2 24 Tryz.underlying32 infoF29 rfl (by decide) _ m _ rfl (H7.out.2.1.alloc _) W2.heap.size 1 #[.string p, .int .i64 3] 36 rfl (Blk.new _ _ _) rfl (by simp [Value.oneCell']) (by omega) (by decide) (by simp; omega) _ rfl ?_; intro g cap W3 hown1 hgrow1 hat hlt1)
            have hIN : FnI w5.heap.size w5 _ (F.take (i + 1)) W3 ∧ Blk W3 N 36 #[.string p, .int .i64 3] := ⟨⟨by rw [HE.out.1.1, HE.out.1.2.1, HE.out.1.2.2.1, HE.out.1.2.2.2]; exact (H7.out.1.alloc _).grown hgrow1 (fun e => own_ne_blk H7.out.2.1 H7.out.1 (by decide) e.symm), by rw [HE.out.2]; exact OwnF29.app (x := (p, 3)) hown1 HM.out, own_below H7.out.2.1 (H7.out.2.2.1.alloc H7.out.2.2.1.size _) hgrow1 (Nat.le_refl _) (by simp; omega)⟩, (H7.out.2.2.2.alloc _).grown hgrow1 (fun e => HNN.out e.symm)⟩
            clear hown1 hgrow1 hat hlt1
            have HIN := Lib.hid hIN; clear hIN
            have hwW := H5.out.1.trans (HIN.out.1.2.2.mono H5.out.1.size)
            have k0 : ∀ m : Held (Aft W3), (HeldW m).cell? ⟨N, 0, none⟩ = some (.string p) := fun m => (Aft.cell m HIN.out.2.lt).trans (HIN.out.2.cell 0)
            have k1 : ∀ m : Held (Aft W3), (HeldW m).cell? ⟨N, 1, none⟩ = some (.int .i64 3) := fun m => (Aft.cell m HIN.out.2.lt).trans (HIN.out.2.cell 1)
            have hBG := H5.out.2.1.below HIN.out.1.2.2 H5.out.2.1.lt
            have k2 : ∀ m : Held (Aft W3), (HeldW m).cell? ⟨G, 0, none⟩ = some (.slice A1 n1 c1) := fun m => (Aft.cell m hBG.lt).trans (hBG.cell 0)
            have k3 : ∀ m : Held (Aft W3), (HeldW m).cell? ⟨G, 1, none⟩ = some (.slice A2 n2 c2) := fun m => (Aft.cell m hBG.lt).trans (hBG.cell 1)
            have HCH := Lib.hid (fun m : Held (Aft W3) => (by
              have hbm : Below w.heap.size w (HeldW m) := hwW.trans ((HeldW_spec m : Below W3.heap.size W3 (HeldW m)).mono hwW.size)
              have hb5m : Below w5.heap.size w5 (HeldW m) := HIN.out.1.2.2.trans ((HeldW_spec m : Below W3.heap.size W3 (HeldW m)).mono HIN.out.1.2.2.size)
              have := changed_any (HeldW m) (.slice A1 n1 c1) (.slice A2 n2 c2) l1 l2 bt bm xs p (HS.out.1.1.below hbm (Nat.le_refl _)) (HS.out.1.2.below hbm (Nat.le_refl _)) (by have := HLL.out.1.1; omega) (by have := HLL.out.1.2; omega) (H5.out.2.2.1.below hb5m) (by have := HLL.out.2.2.1; omega) HPX.out.2 hpz
              rw [← HOF.out] at this
              exact this : Calls Tryz.prog 11 #[.agg #[.slice A1 n1 c1, .slice A2 n2 c2], .pointer (some ⟨bt, 0, none⟩), .string p] (HeldW m) fun e w' => e = .returned (.bool true) ∧ Below (HeldW m).heap.size (HeldW m) w'))
            clear hBG hwW y0 y1
            haveI := Aft.some W3
            refine wp_region_class (Aft W3) (by kernel_rfl) (by kernel_rfl) (Aft.start W3) ?_
            repeat (go_big_quiet_step (with_reducible exact held_below Aft.keep (HCH.out _)))
            refine wpQuiet_nil ?_
            rintro _ ⟨nn, rfl⟩
            have HIF := Lib.hid (HIN.out.1.below (HeldW_spec nn : Below W3.heap.size W3 (HeldW nn)))
            clear k0 k1 k2 k3 HCH
            go_wp2_with fail
            go_roundw
            case rel => exact ⟨i + 1, by omega, by go_num, HIF.out⟩
            case measure => simp [intOf]; omega
        · obtain rfl : i = n := by omega
          have hf : F.take i = F := List.take_of_length_le (by have := HF.out.2; omega)
          rw [hf] at hI
          have hw := H5.out.1.trans (hI.2.2.mono H5.out.1.size)
          have hBG := H5.out.2.1.below hI.2.2 H5.out.2.1.lt
          have x0 := hBG.cell 0
          have x1 := hBG.cell 1
          simp at x0 x1
          have HDA := Lib.hid (HF.out.1 ▸ detAll_any wr (.slice A1 n1 c1) (.slice A2 n2 c2) l1 l2 bt bm xs (HS.out.1.1.below hw (Nat.le_refl _)) (HS.out.1.2.below hw (Nat.le_refl _)) (by have := HLL.out.1.1; omega) (by have := HLL.out.1.2; omega) (fun m hm => HZ.out m (List.mem_append_left _ hm)) (fun m hm => HZ.out m (List.mem_append_right _ hm)) (H5.out.2.2.1.below hI.2.2) (by have := HLL.out.2.2.1; omega) HPX.out.1 HPX.out.2)
          have HI := Lib.hid (And.intro hI hw)
          have hoS := hI.2.1
          unfold OwnF29 at hoS
          obtain ⟨m, hm⟩ : ∃ m, (chg F).length = m := ⟨_, rfl⟩
          rw [hm] at hoS
          obtain ⟨A6, c6, rfl, -, -, -⟩ := SlV_of_any hoS
          clear hI hw hBG hf hm hoS
          have hcn := cntF_le 0 F
          clear hcn
          go_wp2_with fail
          refine HDA.out.mono ?_
          rintro e w6 ⟨u7, rfl, ho7, hb7⟩
          have hs7 := ho7.slvFD
          unfold OwnFd at ho7
          rw [HF.out.2] at ho7
          obtain ⟨A7, c7, rfl, -, -, -⟩ := SlV_of_any ho7
          have H7 := Lib.hid (And.intro (HI.out.2.trans (hb7.mono HI.out.2.size)) (And.intro (HI.out.1.below hb7) hs7))
          clear hb7 ho7 hs7 HDA x0 x1
          go_upto_region 18 with fail
          obtain ⟨z0, hz0⟩ : ∃ z, cntF 0 F = z := ⟨_, rfl⟩
          obtain ⟨z1, hz1⟩ : ∃ z, cntF 1 F = z := ⟨_, rfl⟩
          obtain ⟨z2, hz2⟩ : ∃ z, cntF 2 F = z := ⟨_, rfl⟩
          obtain ⟨z3, hz3⟩ : ∃ z, cntF 3 F = z := ⟨_, rfl⟩
          obtain ⟨C, hC⟩ : ∃ C, w5.heap.size = C := ⟨_, rfl⟩
          have hBC := H7.out.2.1.1
          have hBG := H5.out.2.1.below H7.out.2.1.2.2 H5.out.2.1.lt
          rw [hz0, hz1, hz2, hz3, hC] at hBC
          have hFC : FnC G C #[.slice A1 n1 c1, .slice A2 n2 c2] #[.int .i64 z0, .int .i64 z1, .int .i64 z2, .int .i64 z3] w6 := ⟨hBG, hBC⟩
          have HFC := Lib.hid hFC
          have HZZ := Lib.hid (And.intro hz0 (And.intro hz1 (And.intro hz2 hz3)))
          clear hBC hBG hz0 hz1 hz2 hz3
          rw [hC]
          clear hC
          have k0 : ∀ m : Held (FnC G C #[.slice A1 n1 c1, .slice A2 n2 c2] #[.int .i64 z0, .int .i64 z1, .int .i64 z2, .int .i64 z3]), (HeldW m).cell? ⟨G, 0, none⟩ = some (.slice A1 n1 c1) := fun m => (HeldW_spec m).1.cell 0
          have k1 : ∀ m : Held (FnC G C #[.slice A1 n1 c1, .slice A2 n2 c2] #[.int .i64 z0, .int .i64 z1, .int .i64 z2, .int .i64 z3]), (HeldW m).cell? ⟨G, 1, none⟩ = some (.slice A2 n2 c2) := fun m => (HeldW_spec m).1.cell 1
          have k2 : ∀ m : Held (FnC G C #[.slice A1 n1 c1, .slice A2 n2 c2] #[.int .i64 z0, .int .i64 z1, .int .i64 z2, .int .i64 z3]), (HeldW m).cell? ⟨C, 0, none⟩ = some (.int .i64 z0) := fun m => (HeldW_spec m).2.cell 0
          have k3 : ∀ m : Held (FnC G C #[.slice A1 n1 c1, .slice A2 n2 c2] #[.int .i64 z0, .int .i64 z1, .int .i64 z2, .int .i64 z3]), (HeldW m).cell? ⟨C, 1, none⟩ = some (.int .i64 z1) := fun m => (HeldW_spec m).2.cell 1
          have k4 : ∀ m : Held (FnC G C #[.slice A1 n1 c1, .slice A2 n2 c2] #[.int .i64 z0, .int .i64 z1, .int .i64 z2, .int .i64 z3]), (HeldW m).cell? ⟨C, 2, none⟩ = some (.int .i64 z2) := fun m => (HeldW_spec m).2.cell 2
          have k5 : ∀ m : Held (FnC G C #[.slice A1 n1 c1, .slice A2 n2 c2] #[.int .i64 z0, .int .i64 z1, .int .i64 z2, .int .i64 z3]), (HeldW m).cell? ⟨C, 3, none⟩ = some (.int .i64 z3) := fun m => (HeldW_spec m).2.cell 3
          have hEQ := fun W : World => neq_four z0 z1 z2 z3 W
          haveI : Nonempty (Held (FnC G C #[.slice A1 n1 c1, .slice A2 n2 c2] #[.int .i64 z0, .int .i64 z1, .int .i64 z2, .int .i64 z3])) := held_some hFC
          have HS1 := Lib.hid (same29_any w6.drew (.slice A7 i c7) (.slice A5 i c5) F (H7.out.2.2.below (Below.refl _ w6).drew (Nat.le_refl _)) (H5.out.2.2.2.2.below (H7.out.2.1.2.2.drew) (Nat.le_refl _)))
          have HD0 := Lib.hid hFC.1.drew
          have hFD : FnC G C #[.slice A1 n1 c1, .slice A2 n2 c2] #[.int .i64 z0, .int .i64 z1, .int .i64 z2, .int .i64 z3] w6.drew := ⟨hFC.1.drew, hFC.2.drew⟩
          have HFD := Lib.hid hFD
          clear hFC hFD
          refine wp_region_mix (FnC G C #[.slice A1 n1 c1, .slice A2 n2 c2] #[.int .i64 z0, .int .i64 z1, .int .i64 z2, .int .i64 z3]) [(0, true), (1, true), (2, false), (3, true), (4, true), (5, true), (7, true), (6, false), (8, false), (9, true), (10, true), (11, true), (13, true), (12, false), (14, true), (15, true), (16, true), (17, true), (18, true), (19, true), (22, true), (23, true), (24, true), (20, false), (21, false), (25, false), (26, false), (27, true), (28, true), (29, false), (30, true), (31, true)] (by kernel_rfl) (by kernel_rfl) ?_
          simp only [pickP, List.filterMap_cons, List.filterMap_nil, List.getElem?_toArray, List.getElem?_cons_succ, List.getElem?_cons_zero, Option.map_some]
          repeat (apply mix_first; apply Exists.intro; refine ⟨fun m => ?_, HFD.out, ?_⟩; · (go_big_quiet_step (fail); exact wpQuiet_nil rfl))
          refine mix_forced HFD.out ?_
          go_wp2_with fail
          refine HS1.out.mono ?_
          rintro e w8 ⟨rfl, ⟨q8, hq8⟩⟩
          have HB8 := Lib.hid ((Below.refl w6.heap.size w6).drew.trans (below_drewN' hq8)); clear hq8 HS1 HFD HD0
          have HC := Lib.hid (HFC.out.below HB8.out)
          have HW8 := Lib.hid (H7.out.1.trans (HB8.out.mono H7.out.1.size))
          have HI8 := Lib.hid (H7.out.2.1.below HB8.out)
          go_wp2_with fail
          show mixC _ _ _ _ _ _ _
          repeat (apply mix_first; apply Exists.intro; refine ⟨fun m => ?_, HC.out, ?_⟩; · (go_big_quiet_step (fail); exact wpQuiet_nil rfl))
          refine mix_forced HC.out ?_
          go_wp2_with fail
          refine (detOf_any w8 (.slice A1 n1 c1) (.slice A2 n2 c2) l1 l2 bt bm xs (HS.out.1.1.below HW8.out (Nat.le_refl _)) (HS.out.1.2.below HW8.out (Nat.le_refl _)) (by have := HLL.out.1.1; omega) (by have := HLL.out.1.2; omega) (fun m hm => HZ.out m (List.mem_append_left _ hm)) (fun m hm => HZ.out m (List.mem_append_right _ hm)) (H5.out.2.2.1.below HI8.out.2.2) (by have := HLL.out.2.2.1; omega) HPX.out.1 HPX.out.2).mono ?_
          rintro e w9 ⟨u9, rfl, ho9, hb9⟩
          rw [HF.out.1] at ho9
          have HI9 := Lib.hid (HI8.out.below hb9)
          have HS9 := Lib.hid (same29_any w9 u9 _ (chg F) ho9.slvFD HI9.out.2.1.slv)
          have HC9 := Lib.hid (HC.out.below hb9)
          have HB9 := Lib.hid (HB8.out.trans (hb9.mono HB8.out.size))
          clear HC hb9 ho9 HI8 HW8 HB8
          have HC := Lib.hid HC9.out; clear HC9
          go_wp2_with fail
          show mixC _ _ _ _ _ _ _
          refine mix_forced HC.out ?_
          go_wp2_with fail
          refine HS9.out.mono ?_
          rintro e w10 ⟨rfl, ⟨q10, hq10⟩⟩
          have hb10 := below_drewN' hq10
          have HI10 := Lib.hid (HI9.out.below hb10)
          have HC10 := Lib.hid (HC.out.below hb10)
          have H10W := Lib.hid (HB9.out.trans (hb10.mono HB9.out.size))
          clear HC hb10 hq10 HS9 HI9 HB9
          have HC := Lib.hid HC10.out; clear HC10
          have hcn := detCount_any w10 (.slice A7 i c7) F (H7.out.2.2.below (H10W.out) (Nat.le_refl _)) (by have := HF.out.2; omega) (fun f hf => (allP_four (by rw [HF.out.1]; exact hf)).2)
          rw [HZZ.out.1, HZZ.out.2.1, HZZ.out.2.2.1, HZZ.out.2.2.2] at hcn
          have HCN := Lib.hid hcn; clear hcn
          go_wp2_with fail
          show mixC _ _ _ _ _ _ _
          repeat (apply mix_first; apply Exists.intro; refine ⟨fun m => ?_, HC.out, ?_⟩; · (go_big_quiet_step (fail); exact wpQuiet_nil rfl))
          refine mix_forced HC.out ?_
          go_wp2_with fail
          refine HCN.out.mono ?_
          rintro e w11 ⟨rfl, hb11⟩
          have HI11 := Lib.hid (HI10.out.below hb11)
          have HC11 := Lib.hid (HC.out.below hb11)
          clear HC hb11 HCN HI10
          have HC := Lib.hid HC11.out; clear HC11
          go_wp2_with fail
          show mixC _ _ _ _ _ _ _
          repeat (apply mix_first; apply Exists.intro; refine ⟨fun m => ?_, HC.out, ?_⟩; · (go_big_quiet_step (fail); exact wpQuiet_nil rfl))
          refine mix_forced HC.out ?_
          go_wp2_with fail
          show mixC _ _ _ _ _ _ _
          have hba : Below w11.heap.size w11 (w11.alloc (.cells #[.pointer (some ⟨bt, 0, none⟩), .pointer (some ⟨bt2, 0, none⟩)] 28)) := (Below.refl _ w11).alloc (Nat.le_refl _) _
          have hBP : Blk (w11.alloc (.cells #[.pointer (some ⟨bt, 0, none⟩), .pointer (some ⟨bt2, 0, none⟩)] 28)) w11.heap.size 28 #[.pointer (some ⟨bt, 0, none⟩), .pointer (some ⟨bt2, 0, none⟩)] := Blk.new _ _ _
          have HI12 := Lib.hid (HI11.out.below hba)
          have HC12 := Lib.hid (HC.out.below hba)
          have HBP := Lib.hid hBP
          clear HC hba hBP HI11
          have HC := Lib.hid HC12.out; clear HC12
          generalize w11.alloc (.cells #[.pointer (some ⟨bt, 0, none⟩), .pointer (some ⟨bt2, 0, none⟩)] 28) = w12 at *
          have HW12 := Lib.hid (H5.out.1.trans (HI12.out.2.2.mono H5.out.1.size))
          have HPA := Lib.hid (paths2_any w12 (.slice A1 n1 c1) (.slice A2 n2 c2) l1 l2 w11.heap.size _ bt bm bt2 bm2 xs ys (HS.out.1.1.below HW12.out (Nat.le_refl _)) (HS.out.1.2.below HW12.out (Nat.le_refl _)) (by have := HLL.out.1.1; omega) (by have := HLL.out.1.2; omega) (fun m hm => HZ.out m (List.mem_append_left _ hm)) (fun m hm => HZ.out m (List.mem_append_right _ hm)) HBP.out (H5.out.2.2.1.below HI12.out.2.2) (H5.out.2.2.2.1.below HI12.out.2.2) (by have := HLL.out.2.2.1; omega) HPX.out.1 (by have := HLL.out.2.2.2; omega) HPY.out.1)
          refine mix_forced HC.out ?_
          go_wp2_with fail
          refine HPA.out.mono ?_
          rintro e w13 ⟨u13, rfl, ho13, hb13⟩
          rw [← flat_sE] at ho13
          have hs13 : SlV w13 1 sE u13 _ := SlV.of_own ho13 sE_len (by decide)
          have HI13 := Lib.hid (HI12.out.below hb13)
          have HC13 := Lib.hid (HC.out.below hb13)
          have HS13 := Lib.hid hs13
          clear HC ho13 hs13 hb13 HPA HBP HI12 HW12
          have HC := Lib.hid HC13.out; clear HC13
          have HW13 := Lib.hid (H5.out.1.trans (HI13.out.2.2.mono H5.out.1.size))
          have HRP := Lib.hid (refPathsP_any w13 (.slice A1 n1 c1) (.slice A2 n2 c2) l1 l2 (HS.out.1.1.below HW13.out (Nat.le_refl _)) (HS.out.1.2.below HW13.out (Nat.le_refl _)) (by have := HLL.out.1.1; omega) (by have := HLL.out.1.2; omega) HZ.out (.slice A3 n3 c3) (.slice A4 n4 c4) xs ys (HS.out.2.1.1.below HW13.out (Nat.le_refl _)) (HS.out.2.1.2.below HW13.out (Nat.le_refl _)) (by have := HLL.out.2.2.1; omega) (by have := HLL.out.2.2.2; omega) (fun m hm => (List.mem_append.1 hm).elim (HPX.out.1 m) (HPY.out.1 m)))
          go_wp2_with fail
          show mixC _ _ _ _ _ _ _
          refine mix_forced HC.out ?_
          go_wp2_with fail
          refine HRP.out.mono ?_
          rintro e w14 ⟨⟨u14, rfl, ho14⟩, hb14⟩
          rw [List.map_append (l₁ := xs)] at ho14
          have HSM := Lib.hid (same_any w14 u13 u14 _ _ (HS13.out.below hb14 (Nat.le_refl _)) ho14.slv)
          rw [decide_eq_true rfl] at HSM
          have HI14 := Lib.hid (HI13.out.below hb14)
          have HC14 := Lib.hid (HC.out.below hb14)
          clear HC ho14 hb14 HRP HS13 HI13 HW13
          have HC := Lib.hid HC14.out; clear HC14
          go_wp2_with fail
          show mixC _ _ _ _ _ _ _
          refine mix_forced HC.out ?_
          go_wp2_with fail
          refine HSM.out.mono ?_
          rintro e w15 ⟨rfl, ⟨q15, hq15⟩⟩
          have hb15 := below_drewN' hq15
          have HI15 := Lib.hid (HI14.out.below hb15)
          have HC15 := Lib.hid (HC.out.below hb15)
          clear HC hb15 hq15 HSM HI14
          have HC := Lib.hid HC15.out; clear HC15
          go_wp2_with fail
          show mixC _ _ _ _ _ _ _
          repeat (apply mix_first; apply Exists.intro; refine ⟨fun m => ?_, HC.out, ?_⟩; · (go_big_quiet_step (fail); exact wpQuiet_nil rfl))
          refine mix_forced HC.out ?_
          go_wp2_with fail
          refine (detect_lives _).mono ?_
          rintro e w16 ⟨rfl, hb16⟩
          have HI16 := Lib.hid (HI15.out.below hb16)
          have HC16 := Lib.hid (HC.out.below hb16)
          clear HC hb16 HI15
          have HC := Lib.hid HC16.out; clear HC16
          go_wp2_with fail
          show mixC _ _ _ _ _ _ _
          repeat (apply mix_first; apply Exists.intro; refine ⟨fun m => ?_, HC.out, ?_⟩; · (go_big_quiet_step (fail); exact wpQuiet_nil rfl))
          refine mix_nil HC.out ?_
          have HFW := Lib.hid (H5.out.1.trans (HI16.out.2.2.mono H5.out.1.size))
          clear k0 k1 k2 k3 k4 k5 HC hEQ
          go_wp2_with fail
          go_ret
          exact ⟨rfl, HFW.out⟩
end Go.Proofs.YteofiffbobbdmaaGreatDoor
