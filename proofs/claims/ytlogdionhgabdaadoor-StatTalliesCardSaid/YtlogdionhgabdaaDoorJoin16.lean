/- Several texts, joined for the limit of sixty files; each one opens with its own comment. -/
import Derived.Test.YtlogdionhgabdaaDoorJoin15
/- slices.SortStableFunc at rows of stat.pair[int]. -/
set_option linter.unusedVariables false
set_option linter.unusedSimpArgs false
namespace Go.Proofs.YtlogdionhgabdaaDoor
open Go Go.RowKit
open Sw
set_option maxRecDepth 100000 in
set_option maxHeartbeats 8000000 in
theorem stablePI_any (cmp : Int × Int → Int × Int → Int) (HC : Cmp cmp) (hcall : ∀ W x y, Calls Tryd.prog 29 #[.agg (eCPI x).toArray, .agg (eCPI y).toArray] W fun e w' => e = .returned (.int .i64 (cmp x y)) ∧ Below W.heap.size W w')
    (w : World) (base : Nat) (A : Option Addr) (c : Nat) (n : Nat) (X : List eDPI) (hn : n ≤ 1000000) (hrise : X.Pairwise fun p q => p.2 < q.2) (hbs : base ≤ w.heap.size)
    (hrow : RowDPI w base (.slice A n c) n X) :
    Calls Tryd.prog 39 #[.slice A n c, .int .i64 n, .func (.func 29) #[] #[]] w fun e w' => e = .returned (.tuple #[]) ∧ ∃ M : List eDPI, M.Perm X ∧ UpS cmp M ∧ RowDPI w' base (.slice A n c) n M ∧ Below base w w' := by
  have HR0 := Lib.hid (And.intro hrow hrise)
  have HCC := Lib.hid hcall
  clear hrow hrise hcall
  go_enter Tryd.func39, Tryd.ntmps39
  go_wp2_with fail
  go_loopw [7, 8] (fun av bv wr => ∃ (a b : Nat) (bl : List (List eDPI)) (T : List eDPI), av = .int .i64 a ∧ bv = .int .i64 b ∧ a + 20 ≤ b ∧ b ≤ a + 20 ∧ bl.flatten.length = a ∧ Blks cmp 20 bl ∧ (bl ++ [T]).Pairwise Came ∧ (T.Pairwise fun p q => p.2 < q.2) ∧ (bl.flatten ++ T).Perm X ∧ RowDPI wr base (.slice A n c) n (bl.flatten ++ T) ∧ Below base w wr ∧ base ≤ wr.heap.size) (fun av bv _ => n + 40 - (intOf bv).toNat)
  case atStart =>
    exact ⟨0, 20, [], X, rfl, rfl, Nat.le_refl _, Nat.le_refl _, rfl, Blks.nil, List.pairwise_singleton _ _, HR0.out.2, List.Perm.refl _, HR0.out.1, Below.refl _ _, hbs⟩
  case round =>
    obtain ⟨a, b, bl, T, rfl, rfl, hab1, hab2, hla, hbk, hcm, hTr, hpm, hrow, hbl, hbsr⟩ := hrel
    have hln := hrow.1
    rw [List.length_append, hla] at hln
    have HG := Lib.hid (And.intro hbk (And.intro hcm (And.intro hTr (And.intro hpm (And.intro hrow (And.intro hbl hbsr)))))); clear hbk hcm hTr hpm hrow hbl hbsr
    by_cases hbn : b ≤ n
    · have hbn1 : (b : Int) ≤ n := by omega
      have w1 : IntKind.i64.wrap ((b : Int) + 20) = b + 20 := IntWalk.i64_in _ (by omega)
      have hTT : T.take 20 ++ T.drop 20 = T := List.take_append_drop _ _
      have hl20 : (T.take 20).length = 20 := by rw [List.length_take]; omega
      have HS := Lib.hid (insertPI_any cmp HC HCC.out wr base A c n a b bl.flatten (T.take 20) (T.drop 20) hn hla (by omega) (HG.out.2.2.1.sublist (List.take_sublist _ _)) HG.out.2.2.2.2.2.2 (by rw [List.append_assoc, hTT]; exact HG.out.2.2.2.2.1))
      have HT := Lib.hid (And.intro hTT hl20); clear hTT hl20
      go_wp2_with fail
      refine HS.out.mono ?_
      rintro e w3 ⟨rfl, Y, hY1, hY2, hr3, hb3⟩
      have H3 := Lib.hid (And.intro hY1 (And.intro hY2 (And.intro hr3 (And.intro (HG.out.2.2.2.2.2.1.trans hb3) (Nat.le_trans HG.out.2.2.2.2.2.2 hb3.size))))); clear hY1 hY2 hr3 hb3 HS
      have hYl : Y.length = 20 := by rw [H3.out.1.length_eq, HT.out.2]
      go_wp2_with fail
      go_roundw
      case rel =>
        have hf : (bl ++ [Y]).flatten = bl.flatten ++ Y := by simp
        refine ⟨b, b + 20, bl ++ [Y], T.drop 20, by go_num, by go_num, Nat.le_refl _, Nat.le_refl _, ?_, HG.out.1.snoc hYl H3.out.2.1, ?_, HG.out.2.2.1.sublist (List.drop_sublist _ _), ?_, ?_, H3.out.2.2.2.1, H3.out.2.2.2.2⟩
        · rw [hf, List.length_append, hla, hYl]; omega
        · exact came_cut (by rw [HT.out.1]; exact HG.out.2.1) (by rw [HT.out.1]; exact HG.out.2.2.1) H3.out.1
        · rw [hf, List.append_assoc]
          refine List.Perm.trans (List.Perm.append_left _ (List.Perm.append_right _ H3.out.1)) ?_
          rw [HT.out.1]; exact HG.out.2.2.2.1
        · rw [hf]; exact H3.out.2.2.1
      case measure => simp [intOf]; omega
    · have hbn1 : ¬ (b : Int) ≤ n := by omega
      have HS := Lib.hid (insertPI_any cmp HC HCC.out wr base A c n a n bl.flatten T [] hn hla (by omega) HG.out.2.2.1 HG.out.2.2.2.2.2.2 (by rw [List.append_nil]; exact HG.out.2.2.2.2.1))
      go_wp2_with fail
      refine HS.out.mono ?_
      rintro e w3 ⟨rfl, Y, hY1, hY2, hr3, hb3⟩
      rw [List.append_nil] at hr3
      have HSO := Lib.hid (show Sorts cmp 20 X (bl.flatten ++ Y) from ⟨bl, Y, rfl, HG.out.1, by rw [hY1.length_eq]; omega, hY2, by
        refine List.pairwise_append.2 ⟨(List.pairwise_append.1 HG.out.2.1).1, List.pairwise_singleton _ _, fun Z hZ V hV => ?_⟩
        rw [List.mem_singleton.1 hV]
        exact ((List.pairwise_append.1 HG.out.2.1).2.2 Z hZ T (by simp)).perm (List.Perm.refl _) hY1, (List.Perm.append_left _ hY1).trans HG.out.2.2.2.1⟩)
      have H3 := Lib.hid (And.intro hr3 (And.intro (HG.out.2.2.2.2.2.1.trans hb3) (Nat.le_trans HG.out.2.2.2.2.2.2 hb3.size))); clear hY1 hY2 hr3 hb3 HS
      go_wp2_with fail
      go_loopw [6, 7, 8, 9] (fun sv _ _ _ wr => ∃ (bs : Nat) (l : List eDPI), sv = .int .i64 bs ∧ 20 ≤ bs ∧ bs ≤ 2000000 ∧ Sorts cmp bs X l ∧ RowDPI wr base (.slice A n c) n l ∧ Below base w wr ∧ base ≤ wr.heap.size) (fun sv _ _ _ _ => n - (intOf sv).toNat)
      case atStart => exact ⟨20, _, rfl, Nat.le_refl _, by omega, HSO.out, H3.out⟩
      case round =>
        obtain ⟨bs, l, rfl, hbs20, hbsm, hso, hrow, hbl, hbsr2⟩ := hrel
        have hll := hrow.1
        by_cases hlt : bs < n
        · have hlt1 : (bs : Int) < n := by omega
          obtain ⟨bl0, F, hlE, hB0, hF, hFu, hCm, hPm⟩ := hso
          have HG2 := Lib.hid (And.intro hlE (And.intro hB0 (And.intro hF (And.intro hFu (And.intro hCm (And.intro hPm (And.intro hrow (And.intro hbl hbsr2)))))))); clear hlE hB0 hF hFu hCm hPm hrow hbl hbsr2
          have w2 : IntKind.i64.wrap (2 * (bs : Int)) = 2 * bs := IntWalk.i64_in _ (by omega)
          have w22 : IntKind.i64.wrap ((bs : Int) * 2) = bs * 2 := IntWalk.i64_in _ (by omega)
          go_wp2_with fail
          go_loopw [7, 8] (fun av bv wr => ∃ (a b : Nat) (Dl El : List (List eDPI)), av = .int .i64 a ∧ bv = .int .i64 b ∧ a + 2 * bs ≤ b ∧ b ≤ a + 2 * bs ∧ Dl.flatten.length = a ∧ Blks cmp (2 * bs) Dl ∧ Blks cmp bs El ∧ (Dl ++ (El ++ [F])).Pairwise Came ∧ (Dl.flatten ++ (El.flatten ++ F)).Perm X ∧ RowDPI wr base (.slice A n c) n (Dl.flatten ++ (El.flatten ++ F)) ∧ Below base w wr ∧ base ≤ wr.heap.size) (fun av bv _ => n + 4000000 - (intOf bv).toNat)
          case atStart =>
            refine ⟨0, 2 * bs, [], bl0, rfl, by go_num, by omega, by omega, rfl, Blks.nil, HG2.out.2.1, HG2.out.2.2.2.2.1, ?_, ?_, HG2.out.2.2.2.2.2.2.2⟩
            · have := HG2.out.2.2.2.2.2.1
              rw [HG2.out.1] at this
              exact this
            · have := HG2.out.2.2.2.2.2.2.1
              rw [HG2.out.1] at this
              exact this
          case round =>
            obtain ⟨a, b, Dl, El, rfl, rfl, hab1, hab2, hla, hDk, hEk, hcm, hpm, hrow, hbl, hbsr3⟩ := hrel
            have hln := hrow.1
            rw [List.length_append, List.length_append, hla] at hln
            have HK := Lib.hid (And.intro hDk (And.intro hEk (And.intro hcm (And.intro hpm (And.intro hrow (And.intro hbl hbsr3)))))); clear hDk hEk hcm hpm hrow hbl hbsr3
            have hFl := HG2.out.2.2.1
            by_cases hbn : b ≤ n
            · have hbn1 : (b : Int) ≤ n := by omega
              have wm : IntKind.i64.wrap ((a : Int) + bs) = a + bs := IntWalk.i64_in _ (by omega)
              have wb : IntKind.i64.wrap ((b : Int) + 2 * bs) = b + 2 * bs := IntWalk.i64_in _ (by omega)
              obtain ⟨B1, B2, E', rfl⟩ : ∃ B1 B2 E', El = B1 :: B2 :: E' := by
                rcases El with _ | ⟨B1, _ | ⟨B2, E'⟩⟩
                · simp only [List.flatten_nil, List.length_nil] at hln; omega
                · have := (HK.out.2.1 B1 (by simp)).1
                  simp only [List.flatten_cons, List.flatten_nil, List.append_nil] at hln; omega
                · exact ⟨B1, B2, E', rfl⟩
              have k1 := HK.out.2.1 B1 (by simp)
              have k2 := HK.out.2.1 B2 (by simp)
              have hc12 : Came B1 B2 := (List.pairwise_cons.1 (List.pairwise_append.1 HK.out.2.2.1).2.1).1 B2 (by simp)
              obtain ⟨m, hm⟩ : ∃ m : Nat, ((a : Int) + bs) = m := ⟨a + bs, by omega⟩
              have e1 : Dl.flatten ++ ((B1 :: B2 :: E').flatten ++ F) = Dl.flatten ++ B1 ++ B2 ++ (E'.flatten ++ F) := by simp
              have HS := Lib.hid (symMergePI_any cmp HC HCC.out base A c n hn (2 * bs + 1) wr a m b Dl.flatten B1 B2 (E'.flatten ++ F) (by omega) hla (by omega) (by omega) (by omega) (by omega) k1.2 k2.2 hc12 HK.out.2.2.2.2.2.2 (by rw [← e1]; exact HK.out.2.2.2.2.1))
              have HB := Lib.hid (And.intro k1 k2); clear k1 k2 hc12 e1
              go_wp2_with fail
              refine HS.out.mono ?_
              rintro e w5 ⟨rfl, M, hM1, hM2, hr3, hb3⟩
              have H5 := Lib.hid (And.intro hM1 (And.intro hM2 (And.intro hr3 (And.intro (HK.out.2.2.2.2.2.1.trans hb3) (Nat.le_trans HK.out.2.2.2.2.2.2 hb3.size))))); clear hM1 hM2 hr3 hb3 HS
              have hMl : M.length = 2 * bs := by rw [H5.out.1.length_eq, List.length_append, HB.out.1.1, HB.out.2.1]; omega
              go_wp2_with fail
              go_roundw
              case rel =>
                have hf : (Dl ++ [M]).flatten = Dl.flatten ++ M := by simp
                refine ⟨b, b + 2 * bs, Dl ++ [M], E', by go_num, by go_num, by omega, by omega, ?_, HK.out.1.snoc hMl H5.out.2.1, fun Y hY => HK.out.2.1 Y (by simp [hY]), ?_, ?_, ?_, H5.out.2.2.2.1, H5.out.2.2.2.2⟩
                · rw [hf, List.length_append, hla, hMl]; omega
                · have h1 := came_two (X2 := E' ++ [F]) HK.out.2.2.1 H5.out.1
                  simpa using h1
                · rw [hf]
                  refine List.Perm.trans ?_ HK.out.2.2.2.1
                  simp only [List.flatten_cons, List.append_assoc]
                  refine List.Perm.append_left _ ?_
                  rw [← List.append_assoc, ← List.append_assoc, ← List.append_assoc]
                  have := List.Perm.append_right (E'.flatten ++ F) H5.out.1
                  simpa using this
                · rw [hf]; exact H5.out.2.2.1
              case measure => simp [intOf]; omega
            · have hbn1 : ¬ (b : Int) ≤ n := by omega
              obtain ⟨m, hm⟩ : ∃ m : Nat, ((a : Int) + bs) = m := ⟨a + bs, by omega⟩
              have wm : IntKind.i64.wrap ((a : Int) + bs) = m := by rw [IntWalk.i64_in _ (by omega)]; omega
              by_cases hmn : m < n
              · have hmn1 : (m : Int) < n := by omega
                obtain ⟨B, rfl⟩ : ∃ B, El = [B] := by
                  rcases El with _ | ⟨B1, _ | ⟨B2, E'⟩⟩
                  · simp only [List.flatten_nil, List.length_nil] at hln; omega
                  · exact ⟨B1, rfl⟩
                  · have k1 := (HK.out.2.1 B1 (by simp)).1
                    have k2 := (HK.out.2.1 B2 (by simp)).1
                    simp only [List.flatten_cons, List.length_append] at hln; omega
                have k1 := HK.out.2.1 B (by simp)
                have hFl0 : 0 < F.length := by
                  simp only [List.flatten_cons, List.flatten_nil, List.append_nil] at hln; omega
                have hmF : m + F.length = n := by
                  simp only [List.flatten_cons, List.flatten_nil, List.append_nil] at hln; omega
                have hcBF : Came B F := (List.pairwise_cons.1 (List.pairwise_append.1 HK.out.2.2.1).2.1).1 F (by simp)
                have e1 : Dl.flatten ++ ([B].flatten ++ F) = Dl.flatten ++ B ++ F ++ [] := by simp
                have HS := Lib.hid (symMergePI_any cmp HC HCC.out base A c n hn (2 * bs + 1) wr a m n Dl.flatten B F [] (by omega) hla (by omega) hmF (by omega) hFl0 k1.2 HG2.out.2.2.2.1 hcBF HK.out.2.2.2.2.2.2 (by rw [← e1]; exact HK.out.2.2.2.2.1))
                have HB := Lib.hid k1; clear k1 hcBF e1
                go_wp2_with fail
                refine HS.out.mono ?_
                rintro e w5 ⟨rfl, M, hM1, hM2, hr3, hb3⟩
                rw [List.append_nil] at hr3
                have H5 := Lib.hid (And.intro hM1 (And.intro hM2 (And.intro hr3 (And.intro (HK.out.2.2.2.2.2.1.trans hb3) (Nat.le_trans HK.out.2.2.2.2.2.2 hb3.size))))); clear hM1 hM2 hr3 hb3 HS
                have hMl : M.length = bs + F.length := by rw [H5.out.1.length_eq, List.length_append, HB.out.1]
                go_wp2_with fail
                go_roundw
                case rel =>
                  refine ⟨bs * 2, Dl.flatten ++ M, by go_num, by omega, by omega, ⟨Dl, M, rfl, by rw [Nat.mul_comm]; exact HK.out.1, by omega, H5.out.2.1, came_two (X2 := []) HK.out.2.2.1 H5.out.1, ?_⟩, H5.out.2.2.1, H5.out.2.2.2.1, H5.out.2.2.2.2⟩
                  refine List.Perm.trans (List.Perm.append_left _ H5.out.1) ?_
                  have := HK.out.2.2.2.1
                  simpa using this
                case measure => simp [intOf]; omega
              · have hmn1 : ¬ (m : Int) < n := by omega
                have HSO2 := Lib.hid (show Sorts cmp (bs * 2) X (Dl.flatten ++ (El.flatten ++ F)) from by
                  refine ⟨Dl, El.flatten ++ F, rfl, by rw [Nat.mul_comm]; exact HK.out.1, by rw [List.length_append]; omega, ?_, ?_, HK.out.2.2.2.1⟩
                  · rcases El with _ | ⟨B1, E'⟩
                    · exact HG2.out.2.2.2.1
                    · have k1 := HK.out.2.1 B1 (by simp)
                      simp only [List.flatten_cons, List.length_append] at hln
                      have f1 : F = [] := List.eq_nil_of_length_eq_zero (by omega)
                      have f2 : E'.flatten = [] := List.eq_nil_of_length_eq_zero (by omega)
                      rw [List.flatten_cons, f1, f2]
                      simpa using k1.2
                  · rcases El with _ | ⟨B1, E'⟩
                    · exact HK.out.2.2.1
                    · have k1 := HK.out.2.1 B1 (by simp)
                      simp only [List.flatten_cons, List.length_append] at hln
                      have f1 : F = [] := List.eq_nil_of_length_eq_zero (by omega)
                      have f2 : E'.flatten = [] := List.eq_nil_of_length_eq_zero (by omega)
                      rw [List.flatten_cons, f1, f2]
                      have h1 := HK.out.2.2.1
                      simp only [List.append_nil]
                      refine h1.sublist (List.Sublist.append_left ?_ _)
                      exact List.Sublist.cons_cons _ (List.nil_sublist _))
                go_wp2_with fail
                go_roundw
                case rel => exact ⟨bs * 2, _, by go_num, by omega, by omega, HSO2.out, HK.out.2.2.2.2⟩
                case measure => simp [intOf]; omega
        · have hlt1 : ¬ (bs : Int) < n := by omega
          have HD := Lib.hid (hso.done (by omega))
          have HE := Lib.hid (And.intro hrow hbl); clear hso hrow hbl
          go_wp2_with fail
          go_end0
          exact ⟨rfl, l, HD.out.1, HD.out.2, HE.out.1, HE.out.2⟩
set_option maxRecDepth 100000 in
set_option maxHeartbeats 4000000 in
theorem sortStablePI_any (cmp : Int × Int → Int × Int → Int) (HC : Cmp cmp) (hcall : ∀ W x y, Calls Tryd.prog 29 #[.agg (eCPI x).toArray, .agg (eCPI y).toArray] W fun e w' => e = .returned (.int .i64 (cmp x y)) ∧ Below W.heap.size W w')
    (w : World) (base : Nat) (A : Option Addr) (c : Nat) (n : Nat) (X : List eDPI) (hn : n ≤ 1000000) (hrise : X.Pairwise fun p q => p.2 < q.2) (hbs : base ≤ w.heap.size)
    (hrow : RowDPI w base (.slice A n c) n X) :
    Calls Tryd.prog 28 #[.slice A n c, .func (.func 29) #[] #[]] w fun e w' => e = .returned (.tuple #[]) ∧ ∃ M : List eDPI, M.Perm X ∧ UpS cmp M ∧ RowDPI w' base (.slice A n c) n M ∧ Below base w w' := by
  have HS := Lib.hid (stablePI_any cmp HC hcall w base A c n X hn hrise hbs hrow)
  clear hrow hrise hcall
  go_enter Tryd.func28, Tryd.ntmps28
  go_wp2_with fail
  refine HS.out.mono ?_
  rintro e w3 ⟨rfl, M, h1, h2, h3, h4⟩
  have H3 := Lib.hid (And.intro h1 (And.intro h2 (And.intro h3 h4))); clear h1 h2 h3 h4 HS
  go_wp2_with fail
  go_end0
  exact ⟨rfl, M, H3.out⟩
end Go.Proofs.YtlogdionhgabdaaDoor
