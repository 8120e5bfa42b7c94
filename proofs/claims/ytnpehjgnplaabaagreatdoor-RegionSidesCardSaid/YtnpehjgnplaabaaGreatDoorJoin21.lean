/- Several texts, joined for the limit of sixty files; each one opens with its own comment. -/
import Derived.Test.YtnpehjgnplaabaaGreatDoorJoin17
import Derived.Test.YtnpehjgnplaabaaGreatDoorJoin18
import Derived.Test.YtnpehjgnplaabaaGreatDoorJoin20
import Derived.Test.YtnpehjgnplaabaaGreatDoorChecked
import Derived.Test.YtnpehjgnplaabaaGreatDoorJoin9
import Derived.Test.YtnpehjgnplaabaaGreatDoorJoin7
import Derived.Test.YtnpehjgnplaabaaGreatDoorJoin5
/- Several texts, joined for the limit of sixty files; each one opens with its own comment. -/
/- slices.SortStableFunc at rows of api.Mark. -/
set_option linter.unusedVariables false
set_option linter.unusedSimpArgs false
namespace Go.Proofs.YtnpehjgnplaabaaGreatDoor
open Go Go.RowKit
open Sw
set_option maxRecDepth 100000 in
set_option maxHeartbeats 8000000 in
theorem stableMK_any (cmp : { s : ByteArray // s.size ≤ 90000 } × Pr → { s : ByteArray // s.size ≤ 90000 } × Pr → Int) (HC : Cmp cmp) (hcall : ∀ W x y, Calls Tryz.prog 89 #[.agg (eCMK x).toArray, .agg (eCMK y).toArray] W fun e w' => e = .returned (.int .i64 (cmp x y)) ∧ Below W.heap.size W w')
    (w : World) (base : Nat) (A : Option Addr) (c : Nat) (n : Nat) (X : List eDMK) (hn : n ≤ 1000000) (hrise : X.Pairwise fun p q => p.2 < q.2) (hbs : base ≤ w.heap.size)
    (hrow : RowDMK w base (.slice A n c) n X) :
    Calls Tryz.prog 199 #[.slice A n c, .int .i64 n, .func (.func 89) #[] #[]] w fun e w' => e = .returned (.tuple #[]) ∧ ∃ M : List eDMK, M.Perm X ∧ UpS cmp M ∧ RowDMK w' base (.slice A n c) n M ∧ Below base w w' := by
  have HR0 := Lib.hid (And.intro hrow hrise)
  have HCC := Lib.hid hcall
  clear hrow hrise hcall
  go_enter Tryz.func199, Tryz.ntmps199
  go_wp2_with fail
  go_loopw [7, 8] (fun av bv wr => ∃ (a b : Nat) (bl : List (List eDMK)) (T : List eDMK), av = .int .i64 a ∧ bv = .int .i64 b ∧ a + 20 ≤ b ∧ b ≤ a + 20 ∧ bl.flatten.length = a ∧ Blks cmp 20 bl ∧ (bl ++ [T]).Pairwise Came ∧ (T.Pairwise fun p q => p.2 < q.2) ∧ (bl.flatten ++ T).Perm X ∧ RowDMK wr base (.slice A n c) n (bl.flatten ++ T) ∧ Below base w wr ∧ base ≤ wr.heap.size) (fun av bv _ => n + 40 - (intOf bv).toNat)
  case atStart =>
    exact ⟨0, 20, [], X, rfl, rfl, Nat.le_refl _, Nat.le_refl _, rfl, Blks.nil, List.pairwise_singleton _ _, HR0.out.2, List.Perm.refl _, HR0.out.1, Below.refl _ _, hbs⟩
  case round =>
    obtain ⟨a, b, bl, T, rfl, rfl, hab1, hab2, hla, hbk, hcm, hTr, hpm, hrow, hbl, hbsr⟩ := hrel
    have hln := hrow.1
    rw [List.length_append, hla] at hln
    have HG := Lib.hid (And.intro hbk (And.intro hcm (And.intro hTr (And.intro hpm (And.intro hrow (And.intro hbl hbsr)))))); clear hbk hcm hTr hpm hrow hbl hbsr
    by_cases hbn : b ≤ n
    · have hbn1 : (b : Int) ≤ n := by omega
      have w1 : IntKind.i64.wrap ((b : Int) + 20) = b + 20 := IntWalk.i64_in _ (by omega)
      have hTT : T.take 20 ++ T.drop 20 = T := List.take_append_drop _ _
      have hl20 : (T.take 20).length = 20 := by rw [List.length_take]; omega
      have HS := Lib.hid (insertMK_any cmp HC HCC.out wr base A c n a b bl.flatten (T.take 20) (T.drop 20) hn hla (by omega) (HG.out.2.2.1.sublist (List.take_sublist _ _)) HG.out.2.2.2.2.2.2 (by rw [List.append_assoc, hTT]; exact HG.out.2.2.2.2.1))
      have HT := Lib.hid (And.intro hTT hl20); clear hTT hl20
      go_wp2_with fail
      refine HS.out.mono ?_
      rintro e w3 ⟨rfl, Y, hY1, hY2, hr3, hb3⟩
      have H3 := Lib.hid (And.intro hY1 (And.intro hY2 (And.intro hr3 (And.intro (HG.out.2.2.2.2.2.1.trans hb3) (Nat.le_trans HG.out.2.2.2.2.2.2 hb3.size))))); clear hY1 hY2 hr3 hb3 HS
      have hYl : Y.length = 20 := by rw [H3.out.1.length_eq, HT.out.2]
      go_wp2_with fail
      go_roundw
      case rel =>
        have hf : (bl ++ [Y]).flatten = bl.flatten ++ Y := by simp
        refine ⟨b, b + 20, bl ++ [Y], T.drop 20, by go_num, by go_num, Nat.le_refl _, Nat.le_refl _, ?_, HG.out.1.snoc hYl H3.out.2.1, ?_, HG.out.2.2.1.sublist (List.drop_sublist _ _), ?_, ?_, H3.out.2.2.2.1, H3.out.2.2.2.2⟩
        · rw [hf, List.length_append, hla, hYl]; omega
        · exact came_cut (by rw [HT.out.1]; exact HG.out.2.1) (by rw [HT.out.1]; exact HG.out.2.2.1) H3.out.1
        · rw [hf, List.append_assoc]
          refine List.Perm.trans (List.Perm.append_left _ (List.Perm.append_right _ H3.out.1)) ?_
          rw [HT.out.1]; exact HG.out.2.2.2.1
        · rw [hf]; exact H3.out.2.2.1
      case measure => simp [intOf]; omega
    · have hbn1 : ¬ (b : Int) ≤ n := by omega
      have HS := Lib.hid (insertMK_any cmp HC HCC.out wr base A c n a n bl.flatten T [] hn hla (by omega) HG.out.2.2.1 HG.out.2.2.2.2.2.2 (by rw [List.append_nil]; exact HG.out.2.2.2.2.1))
      go_wp2_with fail
      refine HS.out.mono ?_
      rintro e w3 ⟨rfl, Y, hY1, hY2, hr3, hb3⟩
      rw [List.append_nil] at hr3
      have HSO := Lib.hid (show Sorts cmp 20 X (bl.flatten ++ Y) from ⟨bl, Y, rfl, HG.out.1, by rw [hY1.length_eq]; omega, hY2, by
        refine List.pairwise_append.2 ⟨(List.pairwise_append.1 HG.out.2.1).1, List.pairwise_singleton _ _, fun Z hZ V hV => ?_⟩
        rw [List.mem_singleton.1 hV]
        exact ((List.pairwise_append.1 HG.out.2.1).2.2 Z hZ T (by simp)).perm (List.Perm.refl _) hY1, (List.Perm.append_left _ hY1).trans HG.out.2.2.2.1⟩)
      have H3 := Lib.hid (And.intro hr3 (And.intro (HG.out.2.2.2.2.2.1.trans hb3) (Nat.le_trans HG.out.2.2.2.2.2.2 hb3.size))); clear hY1 hY2 hr3 hb3 HS
      go_wp2_with fail
      go_loopw [6, 7, 8, 9] (fun sv _ _ _ wr => ∃ (bs : Nat) (l : List eDMK), sv = .int .i64 bs ∧ 20 ≤ bs ∧ bs ≤ 2000000 ∧ Sorts cmp bs X l ∧ RowDMK wr base (.slice A n c) n l ∧ Below base w wr ∧ base ≤ wr.heap.size) (fun sv _ _ _ _ => n - (intOf sv).toNat)
      case atStart => exact ⟨20, _, rfl, Nat.le_refl _, by omega, HSO.out, H3.out⟩
      case round =>
        obtain ⟨bs, l, rfl, hbs20, hbsm, hso, hrow, hbl, hbsr2⟩ := hrel
        have hll := hrow.1
        by_cases hlt : bs < n
        · have hlt1 : (bs : Int) < n := by omega
          obtain ⟨bl0, F, hlE, hB0, hF, hFu, hCm, hPm⟩ := hso
          have HG2 := Lib.hid (And.intro hlE (And.intro hB0 (And.intro hF (And.intro hFu (And.intro hCm (And.intro hPm (And.intro hrow (And.intro hbl hbsr2)))))))); clear hlE hB0 hF hFu hCm hPm hrow hbl hbsr2
          have w2 : IntKind.i64.wrap (2 * (bs : Int)) = 2 * bs := IntWalk.i64_in _ (by omega)
          have w22 : IntKind.i64.wrap ((bs : Int) * 2) = bs * 2 := IntWalk.i64_in _ (by omega)
          go_wp2_with fail
          go_loopw [7, 8] (fun av bv wr => ∃ (a b : Nat) (Dl El : List (List eDMK)), av = .int .i64 a ∧ bv = .int .i64 b ∧ a + 2 * bs ≤ b ∧ b ≤ a + 2 * bs ∧ Dl.flatten.length = a ∧ Blks cmp (2 * bs) Dl ∧ Blks cmp bs El ∧ (Dl ++ (El ++ [F])).Pairwise Came ∧ (Dl.flatten ++ (El.flatten ++ F)).Perm X ∧ RowDMK wr base (.slice A n c) n (Dl.flatten ++ (El.flatten ++ F)) ∧ Below base w wr ∧ base ≤ wr.heap.size) (fun av bv _ => n + 4000000 - (intOf bv).toNat)
          case atStart =>
            refine ⟨0, 2 * bs, [], bl0, rfl, by go_num, by omega, by omega, rfl, Blks.nil, HG2.out.2.1, HG2.out.2.2.2.2.1, ?_, ?_, HG2.out.2.2.2.2.2.2.2⟩
            · have := HG2.out.2.2.2.2.2.1
              rw [HG2.out.1] at this
              exact this
            · have := HG2.out.2.2.2.2.2.2.1
              rw [HG2.out.1] at this
              exact this
          case round =>
            obtain ⟨a, b, Dl, El, rfl, rfl, hab1, hab2, hla, hDk, hEk, hcm, hpm, hrow, hbl, hbsr3⟩ := hrel
            have hln := hrow.1
            rw [List.length_append, List.length_append, hla] at hln
            have HK := Lib.hid (And.intro hDk (And.intro hEk (And.intro hcm (And.intro hpm (And.intro hrow (And.intro hbl hbsr3)))))); clear hDk hEk hcm hpm hrow hbl hbsr3
            have hFl := HG2.out.2.2.1
            by_cases hbn : b ≤ n
            · have hbn1 : (b : Int) ≤ n := by omega
              have wm : IntKind.i64.wrap ((a : Int) + bs) = a + bs := IntWalk.i64_in _ (by omega)
              have wb : IntKind.i64.wrap ((b : Int) + 2 * bs) = b + 2 * bs := IntWalk.i64_in _ (by omega)
              obtain ⟨B1, B2, E', rfl⟩ : ∃ B1 B2 E', El = B1 :: B2 :: E' := by
                rcases El with _ | ⟨B1, _ | ⟨B2, E'⟩⟩
                · simp only [List.flatten_nil, List.length_nil] at hln; omega
                · have := (HK.out.2.1 B1 (by simp)).1
                  simp only [List.flatten_cons, List.flatten_nil, List.append_nil] at hln; omega
                · exact ⟨B1, B2, E', rfl⟩
              have k1 := HK.out.2.1 B1 (by simp)
              have k2 := HK.out.2.1 B2 (by simp)
              have hc12 : Came B1 B2 := (List.pairwise_cons.1 (List.pairwise_append.1 HK.out.2.2.1).2.1).1 B2 (by simp)
              obtain ⟨m, hm⟩ : ∃ m : Nat, ((a : Int) + bs) = m := ⟨a + bs, by omega⟩
              have e1 : Dl.flatten ++ ((B1 :: B2 :: E').flatten ++ F) = Dl.flatten ++ B1 ++ B2 ++ (E'.flatten ++ F) := by simp
              have HS := Lib.hid (symMergeMK_any cmp HC HCC.out base A c n hn (2 * bs + 1) wr a m b Dl.flatten B1 B2 (E'.flatten ++ F) (by omega) hla (by omega) (by omega) (by omega) (by omega) k1.2 k2.2 hc12 HK.out.2.2.2.2.2.2 (by rw [← e1]; exact HK.out.2.2.2.2.1))
              have HB := Lib.hid (And.intro k1 k2); clear k1 k2 hc12 e1
              go_wp2_with fail
              refine HS.out.mono ?_
              rintro e w5 ⟨rfl, M, hM1, hM2, hr3, hb3⟩
              have H5 := Lib.hid (And.intro hM1 (And.intro hM2 (And.intro hr3 (And.intro (HK.out.2.2.2.2.2.1.trans hb3) (Nat.le_trans HK.out.2.2.2.2.2.2 hb3.size))))); clear hM1 hM2 hr3 hb3 HS
              have hMl : M.length = 2 * bs := by rw [H5.out.1.length_eq, List.length_append, HB.out.1.1, HB.out.2.1]; omega
              go_wp2_with fail
              go_roundw
              case rel =>
                have hf : (Dl ++ [M]).flatten = Dl.flatten ++ M := by simp
                refine ⟨b, b + 2 * bs, Dl ++ [M], E', by go_num, by go_num, by omega, by omega, ?_, HK.out.1.snoc hMl H5.out.2.1, fun Y hY => HK.out.2.1 Y (by simp [hY]), ?_, ?_, ?_, H5.out.2.2.2.1, H5.out.2.2.2.2⟩
                · rw [hf, List.length_append, hla, hMl]; omega
                · have h1 := came_two (X2 := E' ++ [F]) HK.out.2.2.1 H5.out.1
                  simpa using h1
                · rw [hf]
                  refine List.Perm.trans ?_ HK.out.2.2.2.1
                  simp only [List.flatten_cons, List.append_assoc]
                  refine List.Perm.append_left _ ?_
                  rw [← List.append_assoc, ← List.append_assoc, ← List.append_assoc]
                  have := List.Perm.append_right (E'.flatten ++ F) H5.out.1
                  simpa using this
                · rw [hf]; exact H5.out.2.2.1
              case measure => simp [intOf]; omega
            · have hbn1 : ¬ (b : Int) ≤ n := by omega
              obtain ⟨m, hm⟩ : ∃ m : Nat, ((a : Int) + bs) = m := ⟨a + bs, by omega⟩
              have wm : IntKind.i64.wrap ((a : Int) + bs) = m := by rw [IntWalk.i64_in _ (by omega)]; omega
              by_cases hmn : m < n
              · have hmn1 : (m : Int) < n := by omega
                obtain ⟨B, rfl⟩ : ∃ B, El = [B] := by
                  rcases El with _ | ⟨B1, _ | ⟨B2, E'⟩⟩
                  · simp only [List.flatten_nil, List.length_nil] at hln; omega
                  · exact ⟨B1, rfl⟩
                  · have k1 := (HK.out.2.1 B1 (by simp)).1
                    have k2 := (HK.out.2.1 B2 (by simp)).1
                    simp only [List.flatten_cons, List.length_append] at hln; omega
                have k1 := HK.out.2.1 B (by simp)
                have hFl0 : 0 < F.length := by
                  simp only [List.flatten_cons, List.flatten_nil, List.append_nil] at hln; omega
                have hmF : m + F.length = n := by
                  simp only [List.flatten_cons, List.flatten_nil, List.append_nil] at hln; omega
                have hcBF : Came B F := (List.pairwise_cons.1 (List.pairwise_append.1 HK.out.2.2.1).2.1).1 F (by simp)
                have e1 : Dl.flatten ++ ([B].flatten ++ F) = Dl.flatten ++ B ++ F ++ [] := by simp
                have HS := Lib.hid (symMergeMK_any cmp HC HCC.out base A c n hn (2 * bs + 1) wr a m n Dl.flatten B F [] (by omega) hla (by omega) hmF (by omega) hFl0 k1.2 HG2.out.2.2.2.1 hcBF HK.out.2.2.2.2.2.2 (by rw [← e1]; exact HK.out.2.2.2.2.1))
                have HB := Lib.hid k1; clear k1 hcBF e1
                go_wp2_with fail
                refine HS.out.mono ?_
                rintro e w5 ⟨rfl, M, hM1, hM2, hr3, hb3⟩
                rw [List.append_nil] at hr3
                have H5 := Lib.hid (And.intro hM1 (And.intro hM2 (And.intro hr3 (And.intro (HK.out.2.2.2.2.2.1.trans hb3) (Nat.le_trans HK.out.2.2.2.2.2.2 hb3.size))))); clear hM1 hM2 hr3 hb3 HS
                have hMl : M.length = bs + F.length := by rw [H5.out.1.length_eq, List.length_append, HB.out.1]
                go_wp2_with fail
                go_roundw
                case rel =>
                  refine ⟨bs * 2, Dl.flatten ++ M, by go_num, by omega, by omega, ⟨Dl, M, rfl, by rw [Nat.mul_comm]; exact HK.out.1, by omega, H5.out.2.1, came_two (X2 := []) HK.out.2.2.1 H5.out.1, ?_⟩, H5.out.2.2.1, H5.out.2.2.2.1, H5.out.2.2.2.2⟩
                  refine List.Perm.trans (List.Perm.append_left _ H5.out.1) ?_
                  have := HK.out.2.2.2.1
                  simpa using this
                case measure => simp [intOf]; omega
              · have hmn1 : ¬ (m : Int) < n := by omega
                have HSO2 := Lib.hid (show Sorts cmp (bs * 2) X (Dl.flatten ++ (El.flatten ++ F)) from by
                  refine ⟨Dl, El.flatten ++ F, rfl, by rw [Nat.mul_comm]; exact HK.out.1, by rw [List.length_append]; omega, ?_, ?_, HK.out.2.2.2.1⟩
                  · rcases El with _ | ⟨B1, E'⟩
                    · exact HG2.out.2.2.2.1
                    · have k1 := HK.out.2.1 B1 (by simp)
                      simp only [List.flatten_cons, List.length_append] at hln
                      have f1 : F = [] := List.eq_nil_of_length_eq_zero (by omega)
                      have f2 : E'.flatten = [] := List.eq_nil_of_length_eq_zero (by omega)
                      rw [List.flatten_cons, f1, f2]
                      simpa using k1.2
                  · rcases El with _ | ⟨B1, E'⟩
                    · exact HK.out.2.2.1
                    · have k1 := HK.out.2.1 B1 (by simp)
                      simp only [List.flatten_cons, List.length_append] at hln
                      have f1 : F = [] := List.eq_nil_of_length_eq_zero (by omega)
                      have f2 : E'.flatten = [] := List.eq_nil_of_length_eq_zero (by omega)
                      rw [List.flatten_cons, f1, f2]
                      have h1 := HK.out.2.2.1
                      simp only [List.append_nil]
                      refine h1.sublist (List.Sublist.append_left ?_ _)
                      exact List.Sublist.cons_cons _ (List.nil_sublist _))
                go_wp2_with fail
                go_roundw
                case rel => exact ⟨bs * 2, _, by go_num, by omega, by omega, HSO2.out, HK.out.2.2.2.2⟩
                case measure => simp [intOf]; omega
        · have hlt1 : ¬ (bs : Int) < n := by omega
          have HD := Lib.hid (hso.done (by omega))
          have HE := Lib.hid (And.intro hrow hbl); clear hso hrow hbl
          go_wp2_with fail
          go_end0
          exact ⟨rfl, l, HD.out.1, HD.out.2, HE.out.1, HE.out.2⟩
set_option maxRecDepth 100000 in
set_option maxHeartbeats 4000000 in
theorem sortStableMK_any (cmp : { s : ByteArray // s.size ≤ 90000 } × Pr → { s : ByteArray // s.size ≤ 90000 } × Pr → Int) (HC : Cmp cmp) (hcall : ∀ W x y, Calls Tryz.prog 89 #[.agg (eCMK x).toArray, .agg (eCMK y).toArray] W fun e w' => e = .returned (.int .i64 (cmp x y)) ∧ Below W.heap.size W w')
    (w : World) (base : Nat) (A : Option Addr) (c : Nat) (n : Nat) (X : List eDMK) (hn : n ≤ 1000000) (hrise : X.Pairwise fun p q => p.2 < q.2) (hbs : base ≤ w.heap.size)
    (hrow : RowDMK w base (.slice A n c) n X) :
    Calls Tryz.prog 168 #[.slice A n c, .func (.func 89) #[] #[]] w fun e w' => e = .returned (.tuple #[]) ∧ ∃ M : List eDMK, M.Perm X ∧ UpS cmp M ∧ RowDMK w' base (.slice A n c) n M ∧ Below base w w' := by
  have HS := Lib.hid (stableMK_any cmp HC hcall w base A c n X hn hrise hbs hrow)
  clear hrow hrise hcall
  go_enter Tryz.func168, Tryz.ntmps168
  go_wp2_with fail
  refine HS.out.mono ?_
  rintro e w3 ⟨rfl, M, h1, h2, h3, h4⟩
  have H3 := Lib.hid (And.intro h1 (And.intro h2 (And.intro h3 h4))); clear h1 h2 h3 h4 HS
  go_wp2_with fail
  go_end0
  exact ⟨rfl, M, H3.out⟩
end Go.Proofs.YtnpehjgnplaabaaGreatDoor
/- archive.order, Both, Find. -/
set_option linter.unusedVariables false
set_option linter.unusedSimpArgs false
namespace Go.Proofs.YtnpehjgnplaabaaGreatDoor
open Go Go.RowKit
open Sw
abbrev Pth := { s : ByteArray // s.size ≤ 90000 }
abbrev cmpM (x y : Pth × Pr) : Int := ordS x.1.1 y.1.1
theorem cmpM_law : Cmp cmpM where
  irr := fun x => by have := ordS_ord.self x.1.1; show ¬ ordS x.1.1 x.1.1 < 0; omega
  asym := fun x y h => by have := ordS_neg x.1.1 y.1.1; show ¬ ordS y.1.1 x.1.1 < 0; have h' : ordS x.1.1 y.1.1 < 0 := h; omega
  trans := fun x y z h k => by
    show ¬ ordS z.1.1 x.1.1 < 0
    have h' : ¬ ordS y.1.1 x.1.1 < 0 := h
    have k' : ¬ ordS z.1.1 y.1.1 < 0 := k
    intro hz
    rcases ordS_three y.1.1 x.1.1 with e | e | e
    · omega
    · have := ordS_zero e
      rw [← this] at hz
      exact k' hz
    · have e2 : ordS x.1.1 y.1.1 < 0 := by have := ordS_neg x.1.1 y.1.1; omega
      exact k' (ordS_ord.trans _ _ _ hz e2)
set_option maxRecDepth 100000 in
set_option maxHeartbeats 4000000 in
theorem orderM_any (W : World) (x y : Pth × Pr) :
    Calls Tryz.prog 89 #[.agg (eCMK x).toArray, .agg (eCMK y).toArray] W fun e w' => e = .returned (.int .i64 (cmpM x y)) ∧ Below W.heap.size W w' := by
  obtain ⟨⟨p, hp⟩, px⟩ := x
  obtain ⟨⟨q, hq⟩, qx⟩ := y
  rw [show cmpM (⟨p, hp⟩, px) (⟨q, hq⟩, qx) = ordS p q from rfl]
  have hb0 : Below W.heap.size W ((W.alloc (.cells (eCMK (⟨p, hp⟩, px)).toArray 63)).alloc (.cells (eCMK (⟨q, hq⟩, qx)).toArray 63)) := ((Below.refl _ _).alloc (Nat.le_refl _) _).alloc (by simp) _
  have HO := Lib.hid (orderS_any ((W.alloc (.cells (eCMK (⟨p, hp⟩, px)).toArray 63)).alloc (.cells (eCMK (⟨q, hq⟩, qx)).toArray 63)) p q hp hq)
  have HB := Lib.hid hb0; clear hb0
  simp only [eCMK] at *
  generalize ordS p q = r at *
  go_enter Tryz.func89, Tryz.ntmps89
  go_wp2_with fail
  refine HO.out.mono ?_
  rintro e w2 ⟨rfl, hb2⟩
  go_wp2_with fail
  go_ret
  exact ⟨rfl, HB.out.trans (hb2.mono HB.out.size)⟩
def backM (x : Pth × Pr) : MkE := (x.1.1, x.2)
theorem eCMK_back (x : Pth × Pr) : eCMK x = eCM (backM x) := rfl
theorem marks_sub : ∀ (L : List MkE), (∀ m ∈ L, m.1.size ≤ 90000) → ∃ K : List (Pth × Pr), K.map backM = L
  | [], _ => ⟨[], rfl⟩
  | m :: L, h => by
    obtain ⟨K, hK⟩ := marks_sub L (fun x hx => h x (List.mem_cons_of_mem _ hx))
    exact ⟨(⟨m.1, h m (List.mem_cons_self ..)⟩, m.2) :: K, by rw [List.map_cons, hK]; rfl⟩
theorem flat_back (K : List (Pth × Pr)) : K.flatMap eCMK = (K.map backM).flatMap eCM := by
  induction K with
  | nil => rfl
  | cons x K ih => rw [List.flatMap_cons, List.map_cons, List.flatMap_cons, ih, eCMK_back]
theorem zip_riseM {α : Type} (l : List α) : l.zipIdx.Pairwise fun p q => p.2 < q.2 := by
  rw [List.pairwise_iff_getElem]
  intro i j hi hj hij
  simp
  omega
set_option maxRecDepth 100000 in
set_option maxHeartbeats 4000000 in
theorem both_any (w : World) (u1 u2 : Value) (l1 l2 : List MkE) (h1 : SlV w 6 eCM u1 l1) (h2 : SlV w 6 eCM u2 l2) (hl1 : l1.length ≤ 100000) (hl2 : l2.length ≤ 100000) (hp1 : ∀ m ∈ l1, m.1.size ≤ 90000) (hp2 : ∀ m ∈ l2, m.1.size ≤ 90000) :
    Calls Tryz.prog 132 #[.agg #[u1, u2]] w fun e w' => ∃ (u : Value) (M : List MkE), e = .returned u ∧ M.Perm (l1 ++ l2) ∧ w'.ownsRow w.heap.size 63 6 u M.length (M.flatMap eCM) ∧ Below w.heap.size w w' := by
  obtain ⟨K, hK⟩ := marks_sub (l1 ++ l2) (fun m hm => (List.mem_append.1 hm).elim (hp1 m) (hp2 m))
  have hb1 : Below w.heap.size w (w.alloc (.cells #[u1, u2] 24)) := (Below.refl _ w).alloc (Nat.le_refl _) _
  have hb2 : Below w.heap.size w ((w.alloc (.cells #[u1, u2] 24)).alloc (.cells #[u1, u2] 22)) := hb1.alloc (by simp) _
  have HC := Lib.hid (concatM_any ((w.alloc (.cells #[u1, u2] 24)).alloc (.cells #[u1, u2] 22)) (w.heap.size + 1) _ u1 u2 l1 l2 (blk_snd _ _ _ _) (h1.below hb2 (Nat.le_refl _)) (h2.below hb2 (Nat.le_refl _)) hl1 hl2)
  have HB := Lib.hid hb2
  have HKK := Lib.hid hK
  obtain ⟨A1, k1, rfl, _, _, _⟩ := h1
  obtain ⟨A2, k2, rfl, _, _, _⟩ := h2
  have hkl : K.length = (l1 ++ l2).length := by rw [← hK, List.length_map]
  have hk2 : K.length ≤ 1000000 := by rw [hkl, List.length_append]; omega
  have HKL := Lib.hid (And.intro hkl hk2)
  clear hb1 hb2 hK hkl hk2 hl1 hl2 hp1 hp2
  generalize l1.length = n1 at *
  generalize l2.length = n2 at *
  go_enter Tryz.func132, Tryz.ntmps132
  go_wp2_with fail
  refine HC.out.mono ?_
  rintro e w3 ⟨u, rfl, ho3, hb3⟩
  obtain ⟨A3, k3, rfl, _, _, _⟩ := SlV_of_any ho3
  have hrow : RowDMK w3 w.heap.size (.slice A3 (l1 ++ l2).length k3) (l1 ++ l2).length K.zipIdx := ⟨by rw [List.length_zipIdx]; exact HKL.out.1, by rw [List.zipIdx_map_fst, flat_back, HKK.out]; exact own_wide ho3 HB.out.size⟩
  have hb3w := HB.out.trans (hb3.mono HB.out.size)
  have HS := Lib.hid (sortStableMK_any cmpM cmpM_law orderM_any w3 w.heap.size A3 k3 (l1 ++ l2).length K.zipIdx (by rw [← HKL.out.1]; exact HKL.out.2) (zip_riseM K) hb3w.size hrow)
  have H3 := Lib.hid hb3w; clear hb3 ho3 hrow hb3w HC
  generalize (l1 ++ l2).length = n at *
  go_wp2_with fail
  refine HS.out.mono ?_
  rintro e w4 ⟨rfl, M, hM, hU, hr, hb4⟩
  have HF := Lib.hid (show w4.ownsRow w.heap.size 63 6 (.slice A3 n k3) ((M.map Prod.fst).map backM).length (((M.map Prod.fst).map backM).flatMap eCM) from by
    have h := hr.2
    rw [flat_back] at h
    rw [List.length_map, List.length_map, hr.1]
    exact h)
  have HP := Lib.hid (show ((M.map Prod.fst).map backM).Perm (l1 ++ l2) from by
    have h1 := (hM.map Prod.fst).map backM
    rw [List.zipIdx_map_fst, HKK.out] at h1
    exact h1)
  have HB4 := Lib.hid (H3.out.trans hb4); clear hb4 hr hM hU HS
  go_wp2_with fail
  go_ret
  exact ⟨_, _, rfl, HP.out, HF.out, HB4.out⟩
end Go.Proofs.YtnpehjgnplaabaaGreatDoor
/- slices.Clone of a row of sorted.entry[string,bool]: the same elements, in memory of the call's own. -/
set_option linter.unusedVariables false
set_option linter.unusedSimpArgs false
namespace Go.Proofs.YtnpehjgnplaabaaGreatDoor
open Go Go.RowKit
open Sw
theorem infoESB : (Tryz.prog.info? 225).map (fun i => (i.zero, i.size, i.bytes)) = some (some (.agg #[.string ⟨#[]⟩, .bool false]), 2, 24) := by kernel_rfl
set_option maxRecDepth 100000 in
set_option maxHeartbeats 2000000 in
theorem slCloneSB_any {α : Type} (E : α → List Value) (hE : ∀ x, (E x).length = 2) (hE1 : ∀ x, ∀ u ∈ E x, u.oneCell' = true) (w : World) (v : Value) (l : List α) (h : SlV w 2 E v l) (hl : l.length ≤ 1000000) :
    Calls Tryz.prog 170 #[v] w fun e w' => ∃ v', e = .returned v' ∧ w'.ownsRow w.heap.size 225 2 v' l.length (l.flatMap E) ∧ Below w.heap.size w w' := by
  obtain ⟨A, c, rfl, hc1, hc2, hsl⟩ := h
  cases A with
  | none =>
    have h0 : l = [] := by
      cases l with
      | nil => rfl
      | cons a l => obtain ⟨b, off, h, _⟩ := hsl (by simp); cases h
    subst h0
    have hno := World.ownsRow_nil w w.heap.size 225 2
    have HN := Lib.hid hno; clear hno hsl
    have hnl : ∀ W n c, (binOp .eql 219 (.slice none n c) (.slice none 0 0)).run Tryz.prog W = .ok (.bool true) W := fun W n c => Lib.run_eql_slice_nil W 219 225 none n c 0 0 Tryz.underlying219
    go_enter Tryz.func170, Tryz.ntmps170
    go_wp2_with fail
    go_ret
    exact ⟨_, rfl, HN.out, Below.refl _ _⟩
  | some a =>
    obtain ⟨i0, hi, hz0, hz1, hz2⟩ := info_parts infoESB
    have hlen : (l.flatMap E).length = l.length * 2 := flat_len hE l
    have hone : ∀ u ∈ l.flatMap E, u.oneCell' = true := fun u hu => by
      rw [List.mem_flatMap] at hu
      obtain ⟨x, _, hx⟩ := hu
      exact hE1 x u hx
    have hnews : ∀ j u, (l.flatMap E)[j]? = some u → w.cell? (a.add j) = some u := fun j u hj => by
      have hjl := (List.getElem?_eq_some_iff.1 hj).1
      rw [hlen] at hjl
      obtain ⟨b, off, hA, _, hcs⟩ := hsl (by omega)
      rw [Option.some.inj hA, add_mk]
      have hq : j / 2 < l.length := by omega
      have hr : j % 2 < 2 := Nat.mod_lt _ (by omega)
      have hd : j / 2 * 2 + j % 2 = j := by omega
      have h1 := flat_get hE l (j / 2) hq (j % 2) hr
      rw [hd, hj] at h1
      have h2 := hcs (j / 2) hq (j % 2) hr
      rw [Nat.add_assoc, hd] at h2
      rw [h2, ← h1]
    have hnews1 : ∀ (o : Obj) j u, (l.flatMap E)[j]? = some u → (w.alloc o).cell? (a.add j) = some u := fun o j u hj => by
      have h1 := hnews j u hj
      have hlt := World.block_lt_of_cell? w _ h1
      rw [← h1]
      exact ((Below.refl w.heap.size w).alloc (Nat.le_refl _) o).cell hlt
    have hown := World.ownsRow_made (e := 225) (size := 2) (base := w.heap.size) w #[] 0 (Nat.le_refl _) (by decide) (by simp)
    have hbe : Below w.heap.size w (w.alloc (.cells #[] 225)) := (Below.refl _ _).alloc (Nat.le_refl _) _
    have HH := Lib.hid (And.intro hown hbe); clear hown hbe
    have HL := Lib.hid hlen; clear hlen
    have HO := Lib.hid hone; clear hone
    have HW := Lib.hid hnews1; clear hnews1 hnews
    have HI := Lib.hid (And.intro hi (And.intro hz0 (And.intro hz1 hz2))); clear hi hz0 hz1 hz2
    generalize l.flatMap E = xs at *
    generalize l.length = n at *
    have hnl : ∀ W n c, (binOp .eql 219 (.slice (some a) n c) (.slice none 0 0)).run Tryz.prog W = .ok (.bool false) W := fun W n c => Lib.run_eql_slice_nil W 219 225 (some a) n c 0 0 Tryz.underlying219
    go_enter Tryz.func170, Tryz.ntmps170
    go_wp2_with (at_builtin; refine wpList_append_own _ rfl _ _ 219 rfl w.heap.size 225 i0 (.agg #[.string ⟨#[]⟩, .bool false]) 2 24 Tryz.underlying219 HI.out.1 HI.out.2.1 HI.out.2.2.1 HI.out.2.2.2 rfl (by decide) _ _ _ rfl HH.out.1 a n c xs rfl HL.out (HW.out _) HO.out (by unfold maxLen; omega) (by omega) (by simp) ?_; intro v' w1 hown1 hgrow1 hnil1)
    have HP := Lib.hid (And.intro hown1 hgrow1); clear hown1 hgrow1 hnil1
    go_wp2_with fail
    go_ret
    refine ⟨_, rfl, ?_, HH.out.2.grown HP.out.2 (by simp) (fun k hk => ?_)⟩
    · have := HP.out.1
      simpa using this
    · have : w.heap.size = k := Option.some.inj hk
      omega
end Go.Proofs.YtnpehjgnplaabaaGreatDoor
/- slices.BinarySearchFunc over a row of sorted.entry[string,bool], as sorted.Map's find calls it. -/
set_option linter.unusedVariables false
set_option linter.unusedSimpArgs false
namespace Go.Proofs.YtnpehjgnplaabaaGreatDoor
open Go Go.RowKit
open Sw
def SrchPostSB {α : Type} (f : α → Int) (l : List α) (w : World) (e : Ending) (w' : World) : Prop :=
  ∃ i : Nat, i ≤ l.length ∧ (∀ m (h : m < l.length), m < i → f l[m] < 0) ∧ (∀ m (h : m < l.length), i ≤ m → 0 ≤ f l[m]) ∧
    e = .returned (.tuple #[.int .i64 i, .bool (if h : i < l.length then decide (f l[i] = 0) else false)]) ∧ Below w.heap.size w w'
set_option maxRecDepth 100000 in
set_option maxHeartbeats 4000000 in
theorem slSearchSB_any {α : Type} (E : α → List Value) (hE : ∀ x, (E x).length = 2) (f : α → Int) (w : World) (A : Option Addr) (n c g : Nat) (l : List α) (kv : Value) (hl : l.length = n) (hn : n ≤ 1000000) (hsl : SlOf w 2 E A l)
    (hmono : ∀ a b (ha : a < l.length) (hb : b < l.length), a ≤ b → f l[b] < 0 → f l[a] < 0)
    (hcall : ∀ W x, x ∈ l → Below w.heap.size w W → Calls Tryz.prog 201 #[.agg (E x).toArray, kv, .pointer (some ⟨g, 0, none⟩)] W fun e w' => e = .returned (.int .i64 (f x)) ∧ Below W.heap.size W w') :
    Calls Tryz.prog 200 #[.slice A n c, kv, .func (.func 201) #[] #[.pointer (some ⟨g, 0, none⟩)]] w (SrchPostSB f l w) := by
  have HS := Lib.hid hsl; clear hsl
  have HL := Lib.hid hl; clear hl
  have HM := Lib.hid hmono; clear hmono
  have HC := Lib.hid hcall; clear hcall
  have HE := Lib.hid hE; clear hE
  go_enter Tryz.func200, Tryz.ntmps200
  go_wp2_with fail
  go_loopw [9, 10] (fun iv jv wr => ∃ i j : Nat, i ≤ j ∧ j ≤ n ∧ iv = .int .i64 i ∧ jv = .int .i64 j ∧ (∀ m (h : m < l.length), m < i → f l[m] < 0) ∧ (∀ m (h : m < l.length), j ≤ m → 0 ≤ f l[m]) ∧ Below w.heap.size w wr) (fun iv jv _ => (intOf jv - intOf iv).toNat)
  case atStart => exact ⟨0, n, Nat.zero_le _, Nat.le_refl _, rfl, rfl, fun m h h' => by omega, fun m h h' => by have := HL.out; omega, Below.refl _ _⟩
  case round =>
    obtain ⟨i, j, hij, hjn, rfl, rfl, hlo, hhi, hbr⟩ := hrel
    have HLO := Lib.hid hlo; clear hlo
    have HHI := Lib.hid hhi; clear hhi
    by_cases hlt : i < j
    · have hjL : j ≤ l.length := by have := HL.out; omega
      obtain ⟨h, hh⟩ : ∃ h : Nat, ((i : Int) + j) / 2 = h := ⟨(i + j) / 2, by omega⟩
      have hih : i ≤ h := by omega
      have hhj : h < j := by omega
      have hhL : h < l.length := by omega
      obtain ⟨b, off, rfl, hbb, _⟩ := (HS.out.below hbr (Nat.le_refl _)) (by omega)
      have HR := Lib.hid ((HS.out.below hbr (Nat.le_refl _)).range HE.out h hhL)
      have HF := Lib.hid (HC.out wr l[h] (List.getElem_mem hhL) hbr)
      have HX := Lib.hid (HE.out l[h])
      have HLO2 := Lib.hid (fun (hf : f l[h] < 0) m (hm : m < l.length) (hmh : m < h + 1) => (HM.out m h hm hhL (by omega) hf : f l[m] < 0))
      have HHI2 := Lib.hid (fun (hf : ¬ f l[h] < 0) m (hm : m < l.length) (hmh : h ≤ m) => (by
        refine Int.not_lt.1 fun hx => hf ?_
        exact HM.out h m hhL hm hmh hx : 0 ≤ f l[m]))
      generalize f l[h] = fv at *
      generalize E l[h] = ev at *
      have q1 : (i : Int) + j ≤ 2000000 := by omega
      have q2 : (h : Int) < n := by omega
      go_wp2_with (refine wpList_load_mid rfl 225 (.tmp 27) rfl b (off + h * 2) rfl ev _ HR.out Tryz.underlying225 rfl (by rw [HX.out]; kernel_rfl) ?_)
      refine HF.out.mono ?_
      rintro e w2 ⟨rfl, hb2⟩
      have hb3 := hbr.trans (hb2.mono hbr.size)
      clear HR HF
      by_cases hf : fv < 0
      · have H1 := Lib.hid (HLO2.out hf)
        go_wp2_with fail
        go_roundw
        case rel => exact ⟨h + 1, j, by omega, hjn, by go_num, rfl, H1.out, HHI.out, hb3⟩
        case measure => simp [intOf]; omega
      · have H1 := Lib.hid (HHI2.out (by omega))
        go_wp2_with fail
        go_roundw
        case rel => exact ⟨i, h, hih, by omega, rfl, by go_num, HLO.out, H1.out, hb3⟩
        case measure => simp [intOf]; omega
    · obtain rfl : i = j := by omega
      clear hij hlt
      by_cases hin : i < n
      · have hiL : i < l.length := by have := HL.out; omega
        obtain ⟨b, off, rfl, hbb, _⟩ := (HS.out.below hbr (Nat.le_refl _)) (by omega)
        have HR := Lib.hid ((HS.out.below hbr (Nat.le_refl _)).range HE.out i hiL)
        have HF := Lib.hid (HC.out wr l[i] (List.getElem_mem hiL) hbr)
        have HX := Lib.hid (HE.out l[i])
        have HP := Lib.hid (fun w' (hb : Below w.heap.size w w') => (⟨i, by omega, HLO.out, HHI.out, by rw [dif_pos hiL], hb⟩ : SrchPostSB f l w (.returned (.tuple #[.int .i64 i, .bool (decide (f l[i] = 0))])) w'))
        generalize f l[i] = fv at *
        generalize E l[i] = ev at *
        have q2 : (i : Int) < n := by omega
        go_wp2_with (refine wpList_load_row_g rfl 225 (.tmp 43) rfl b (off + i * 2) rfl ev _ HR.out Tryz.underlying225 rfl (by rw [HX.out]; kernel_rfl) ?_)
        refine HF.out.mono ?_
        rintro e w2 ⟨rfl, hb2⟩
        have hb3 := hbr.trans (hb2.mono hbr.size)
        have HQ := Lib.hid (HP.out w2 hb3)
        have hbq : (fv == 0) = decide (fv = 0) := rfl
        go_wp2_with fail
        go_ret2
        exact HQ.out
      · obtain rfl : i = n := by omega
        have HP := Lib.hid (fun w' (hb : Below w.heap.size w w') => (⟨i, by have := HL.out; omega, HLO.out, HHI.out, by rw [dif_neg (by have := HL.out; omega)], hb⟩ : SrchPostSB f l w (.returned (.tuple #[.int .i64 i, .bool false])) w'))
        go_wp2_with fail
        go_ret2
        exact HP.out _ hbr
end Go.Proofs.YtnpehjgnplaabaaGreatDoor
/- sorted.Map[string,bool]: what a map holds; find. -/
set_option linter.unusedVariables false
set_option linter.unusedSimpArgs false
namespace Go.Proofs.YtnpehjgnplaabaaGreatDoor
open Go Go.RowKit
open Sw
/-- an entry's cells -/
def eCSB (e : ByteArray × Bool) : List Value := [.string e.1, .bool e.2]
theorem eCSB_len (e : ByteArray × Bool) : (eCSB e).length = 2 := rfl
theorem eCSB_one (e : ByteArray × Bool) : ∀ u ∈ eCSB e, u.oneCell' = true := by
  intro u hu
  simp only [eCSB, List.mem_cons, List.mem_append, List.not_mem_nil, or_false] at hu
  rcases hu with rfl | rfl <;> rfl
abbrev ordFSB : Value := .func (.func 47) #[] #[]
/-- the map in block bm holds the entries xs -/
structure SMapSB (w : World) (bm : Nat) (xs : List (ByteArray × Bool)) : Prop where
  row : ∃ v, Blk w bm 221 #[ordFSB, v] ∧ w.ownsRow 0 225 2 v xs.length (xs.flatMap eCSB)
  up : Up ordS xs
  ok : ∀ e ∈ xs, okS e.1
set_option maxRecDepth 100000 in
set_option maxHeartbeats 2000000 in
theorem find1SB_any (w : World) (g bm : Nat) (e : ByteArray × Bool) (k : ByteArray) (he : okS e.1) (hk : okS k) (hg : w.cell? ⟨g, 0, none⟩ = some (.pointer (some ⟨bm, 0, none⟩))) (hm : w.cell? ⟨bm, 0, none⟩ = some ordFSB) :
    Calls Tryz.prog 201 #[.agg (eCSB e).toArray, Value.string k, .pointer (some ⟨g, 0, none⟩)] w fun r w' => r = .returned (.int .i64 (ordS e.1 k)) ∧ Below w.heap.size w w' := by
  have HO := Lib.hid (fun W => orderS_any W e.1 k he hk)
  have hB := Blk.new w 225 (eCSB e).toArray
  have hb1 := (Below.refl w.heap.size w).alloc (Nat.le_refl _) (.cells (eCSB e).toArray 225)
  have hgl := World.block_lt_of_cell? w _ hg
  have hml := World.block_lt_of_cell? w _ hm
  have hg1 := (hb1.cell (p := ⟨g, 0, none⟩) hgl).trans hg
  have hm1 := (hb1.cell (p := ⟨bm, 0, none⟩) hml).trans hm
  have hlt := hB.lt
  have hk0 : (w.alloc (.cells (eCSB e).toArray 225)).cell? ⟨w.heap.size, 0, none⟩ = some (Value.string e.1) := hB.cell 0
  clear hg hm hB
  generalize ordS e.1 k = r at *
  have l1 : ∀ m : Held (Aft (w.alloc (.cells (eCSB e).toArray 225))), (HeldW m).cell? ⟨g, 0, none⟩ = some (.pointer (some ⟨bm, 0, none⟩)) := fun m => (Aft.cell m (p := ⟨g, 0, none⟩) (Nat.lt_of_lt_of_le hgl hb1.size)).trans hg1
  have l2 : ∀ m : Held (Aft (w.alloc (.cells (eCSB e).toArray 225))), (HeldW m).cell? ⟨bm, 0, none⟩ = some ordFSB := fun m => (Aft.cell m (p := ⟨bm, 0, none⟩) (Nat.lt_of_lt_of_le hml hb1.size)).trans hm1
  have l3 : ∀ m : Held (Aft (w.alloc (.cells (eCSB e).toArray 225))), (HeldW m).cell? ⟨w.heap.size, 0, none⟩ = some (Value.string e.1) := fun m => (Aft.cell m (p := ⟨w.heap.size, 0, none⟩) hlt).trans hk0
  have HB1 := Lib.hid hb1; clear hb1 hg1 hm1 hk0
  haveI := Aft.some (w.alloc (.cells (eCSB e).toArray 225))
  generalize (eCSB e).toArray = ec at *
  go_enter Tryz.func201, Tryz.ntmps201
  go_wp2_with fail
  refine wp_region_class (Aft (w.alloc (.cells ec 225))) (by kernel_rfl) (by kernel_rfl) (Aft.start _) ?_
  repeat (go_big_quiet_step (with_reducible exact held_below Aft.keep (HO.out _)))
  refine wpQuiet_nil ?_
  rintro _ ⟨nn, rfl⟩
  have HW : Hid (Below (w.alloc (.cells ec 225)).heap.size (w.alloc (.cells ec 225)) (HeldW nn)) := Lib.hid (HeldW_spec nn)
  go_wp2_with fail
  go_ret
  exact ⟨rfl, HB1.out.trans (HW.out.mono HB1.out.size)⟩
end Go.Proofs.YtnpehjgnplaabaaGreatDoor
