/- Several texts, joined for the limit of sixty files; each one opens with its own comment. -/
import Derived.Test.YtlfeeiloijmagaaGreatDoorJoin19
import Derived.Test.YtlfeeiloijmagaaGreatDoorJoin17
import Derived.Test.YtlfeeiloijmagaaGreatDoorJoin13
import Derived.Test.YtlfeeiloijmagaaGreatDoorJoin14
import Derived.StillTailTactics
import Derived.Test.YtlfeeiloijmagaaGreatDoorJoin15
import Derived.Test.YtlfeeiloijmagaaGreatDoorJoin8
import Derived.Test.YtlfeeiloijmagaaGreatDoorChecked
import Derived.Test.YtlfeeiloijmagaaGreatDoorJoin10
import Derived.Test.YtlfeeiloijmagaaGreatDoorJoin5
import Derived.RegionTactic
import Derived.BigRegion
import Derived.Deep.RegionLaw
/- slices.SortStableFunc at rows of api.Mark: two blocks merged, whole. -/
set_option linter.unusedVariables false
set_option linter.unusedSimpArgs false
namespace Go.Proofs.YtlfeeiloijmagaaGreatDoor
open Go Go.RowKit
open Sw
theorem symMergeMK_any (cmp : { s : ByteArray // s.size ≤ 90000 } × Pr → { s : ByteArray // s.size ≤ 90000 } × Pr → Int) (HC : Cmp cmp) (hcall : ∀ W x y, Calls Tryz.prog 102 #[.agg (eCMK x).toArray, .agg (eCMK y).toArray] W fun e w' => e = .returned (.int .i64 (cmp x y)) ∧ Below W.heap.size W w')
    (base : Nat) (A : Option Addr) (c n : Nat) (hn : n ≤ 1000000) : ∀ k, ShorterMK cmp base A c n k := by
  intro k
  induction k with
  | zero => intro W a m b P L R Q h; exact absurd h (Nat.not_lt_zero _)
  | succ k ih =>
    intro W a m b P L R Q hk hP hL hR hL0 hR0 hupL hupR hcame hbs hrow
    by_cases h1 : L.length = 1
    · obtain ⟨x, rfl⟩ := List.length_eq_one_iff.1 h1
      have hr : RowDMK W base (.slice A n c) n (P ++ x :: (R ++ Q)) := by
        have e : P ++ [x] ++ R ++ Q = P ++ x :: (R ++ Q) := by simp
        rw [← e]; exact hrow
      exact mergeLMK_any cmp HC hcall W base A c n a m b P R Q x hn hP hL.symm hR hupR (fun q hq => hcame x (by simp) q hq) hbs hr
    · by_cases h2 : R.length = 1
      · obtain ⟨x, rfl⟩ := List.length_eq_one_iff.1 h2
        have hr : RowDMK W base (.slice A n c) n (P ++ L ++ x :: Q) := by
          have e : P ++ L ++ [x] ++ Q = P ++ L ++ x :: Q := by simp
          rw [← e]; exact hrow
        exact mergeRMK_any cmp HC hcall W base A c n a m b P L Q x hn hP hL (by omega) hR.symm hupL (fun q hq => hcame q hq x (by simp)) hbs hr
      · exact mergeMMK_any cmp HC hcall W base A c n a m b P L R Q hn hP hL hR (by omega) (by omega) hupL hupR hcame hbs hrow (fun W' a' m' b' P' L' R' Q' hk' => ih W' a' m' b' P' L' R' Q' (by omega))
end Go.Proofs.YtlfeeiloijmagaaGreatDoor
/- A stable sort, plainly: rows of blocks, each in order, each come ahead of the next. -/
set_option linter.unusedVariables false
set_option linter.unusedSimpArgs false
namespace Sw
section
variable {α : Type} {c : α → α → Int}
theorem Came.perm {l l' m m' : List (α × Nat)} (h : Came l m) (hl : l'.Perm l) (hm : m'.Perm m) : Came l' m' := fun p hp q hq => h p (hl.mem_iff.1 hp) q (hm.mem_iff.1 hq)
theorem came_two {X1 X2 : List (List (α × Nat))} {B1 B2 M : List (α × Nat)} (h : (X1 ++ B1 :: B2 :: X2).Pairwise Came) (hM : M.Perm (B1 ++ B2)) : (X1 ++ M :: X2).Pairwise Came := by
  obtain ⟨h1, h2, h3⟩ := List.pairwise_append.1 h
  obtain ⟨k1, k2⟩ := List.pairwise_cons.1 h2
  obtain ⟨k3, k4⟩ := List.pairwise_cons.1 k2
  have hin : ∀ p, p ∈ M → p ∈ B1 ∨ p ∈ B2 := fun p hp => List.mem_append.1 (hM.mem_iff.1 hp)
  refine List.pairwise_append.2 ⟨h1, List.pairwise_cons.2 ⟨fun Y hY p hp q hq => ?_, k4⟩, fun Z hZ Y hY => ?_⟩
  · rcases hin p hp with h | h
    · exact k1 Y (List.mem_cons_of_mem _ hY) p h q hq
    · exact k3 Y hY p h q hq
  · rcases List.mem_cons.1 hY with rfl | hY
    · intro p hp q hq
      rcases hin q hq with h | h
      · exact h3 Z hZ B1 (by simp) p hp q h
      · exact h3 Z hZ B2 (by simp) p hp q h
    · exact h3 Z hZ Y (by simp [hY])
theorem came_cut {X1 : List (List (α × Nat))} {T1 T2 M : List (α × Nat)} (h : (X1 ++ [T1 ++ T2]).Pairwise Came) (hr : (T1 ++ T2).Pairwise fun p q => p.2 < q.2) (hM : M.Perm T1) : (X1 ++ [M] ++ [T2]).Pairwise Came := by
  obtain ⟨h1, _, h3⟩ := List.pairwise_append.1 h
  have hc := (List.pairwise_append.1 hr).2.2
  rw [List.append_assoc]
  refine List.pairwise_append.2 ⟨h1, List.pairwise_cons.2 ⟨fun Y hY => ?_, List.pairwise_singleton _ _⟩, fun Z hZ Y hY => ?_⟩
  · obtain rfl := List.mem_singleton.1 hY
    exact fun p hp q hq => hc p (hM.mem_iff.1 hp) q hq
  · have h4 := h3 Z hZ _ (List.mem_singleton.2 rfl)
    simp only [List.cons_append, List.nil_append, List.mem_cons, List.not_mem_nil, or_false] at hY
    rcases hY with rfl | rfl
    · exact fun p hp q hq => h4 p hp q (List.mem_append_left _ (hM.mem_iff.1 hq))
    · exact fun p hp q hq => h4 p hp q (List.mem_append_right _ hq)
/-- blocks of one length, each in order -/
def Blks (c : α → α → Int) (bs : Nat) (bl : List (List (α × Nat))) : Prop := ∀ B ∈ bl, B.length = bs ∧ UpS c B
theorem Blks.nil {bs : Nat} : Blks c bs [] := fun B h => by cases h
theorem Blks.snoc {bs : Nat} {bl : List (List (α × Nat))} {B : List (α × Nat)} (h : Blks c bs bl) (hl : B.length = bs) (hu : UpS c B) : Blks c bs (bl ++ [B]) := fun Y hY => by
  rcases List.mem_append.1 hY with h' | h'
  · exact h Y h'
  · rw [List.mem_singleton.1 h']; exact ⟨hl, hu⟩
theorem Blks.len {bs : Nat} : ∀ {bl : List (List (α × Nat))}, Blks c bs bl → bl.flatten.length = bl.length * bs
  | [], _ => by simp
  | B :: bl, h => by
    rw [List.flatten_cons, List.length_append, (h B (by simp)).1, Blks.len (bl := bl) (fun Y hY => h Y (by simp [hY])), List.length_cons, Nat.add_mul, Nat.one_mul, Nat.add_comm]
/-- a whole row in blocks -/
def Sorts (c : α → α → Int) (bs : Nat) (X l : List (α × Nat)) : Prop :=
  ∃ (bl : List (List (α × Nat))) (F : List (α × Nat)), l = bl.flatten ++ F ∧ Blks c bs bl ∧ F.length < bs ∧ UpS c F ∧ (bl ++ [F]).Pairwise Came ∧ l.Perm X
/-- blocks as long as the row: the row is in order -/
theorem Sorts.done {bs : Nat} {X l : List (α × Nat)} (h : Sorts c bs X l) (hl : l.length ≤ bs) : l.Perm X ∧ UpS c l := by
  obtain ⟨bl, F, rfl, hb, hF, hu, hc, hp⟩ := h
  refine ⟨hp, ?_⟩
  rcases bl with _ | ⟨B, bl⟩
  · simpa using hu
  · have h1 := hb B (by simp)
    rw [List.flatten_cons, List.length_append, List.length_append, h1.1] at hl
    have e1 : F = [] := List.eq_nil_of_length_eq_zero (by omega)
    have e2 : bl.flatten = [] := List.eq_nil_of_length_eq_zero (by omega)
    rw [List.flatten_cons, e1, e2]
    simpa using h1.2
end
end Sw
/- slices.SortStableFunc at rows of api.Mark. -/
set_option linter.unusedVariables false
set_option linter.unusedSimpArgs false
namespace Go.Proofs.YtlfeeiloijmagaaGreatDoor
open Go Go.RowKit
open Sw
set_option maxRecDepth 100000 in
set_option maxHeartbeats 8000000 in
theorem stableMK_any (cmp : { s : ByteArray // s.size ≤ 90000 } × Pr → { s : ByteArray // s.size ≤ 90000 } × Pr → Int) (HC : Cmp cmp) (hcall : ∀ W x y, Calls Tryz.prog 102 #[.agg (eCMK x).toArray, .agg (eCMK y).toArray] W fun e w' => e = .returned (.int .i64 (cmp x y)) ∧ Below W.heap.size W w')
    (w : World) (base : Nat) (A : Option Addr) (c : Nat) (n : Nat) (X : List eDMK) (hn : n ≤ 1000000) (hrise : X.Pairwise fun p q => p.2 < q.2) (hbs : base ≤ w.heap.size)
    (hrow : RowDMK w base (.slice A n c) n X) :
    Calls Tryz.prog 129 #[.slice A n c, .int .i64 n, .func (.func 102) #[] #[]] w fun e w' => e = .returned (.tuple #[]) ∧ ∃ M : List eDMK, M.Perm X ∧ UpS cmp M ∧ RowDMK w' base (.slice A n c) n M ∧ Below base w w' := by
  have HR0 := Lib.hid (And.intro hrow hrise)
  have HCC := Lib.hid hcall
  clear hrow hrise hcall
  go_enter Tryz.func129, Tryz.ntmps129
  go_wp2_with fail
  go_loopw [7, 8] (fun av bv wr => ∃ (a b : Nat) (bl : List (List eDMK)) (T : List eDMK), av = .int .i64 a ∧ bv = .int .i64 b ∧ a + 20 ≤ b ∧ b ≤ a + 20 ∧ bl.flatten.length = a ∧ Blks cmp 20 bl ∧ (bl ++ [T]).Pairwise Came ∧ (T.Pairwise fun p q => p.2 < q.2) ∧ (bl.flatten ++ T).Perm X ∧ RowDMK wr base (.slice A n c) n (bl.flatten ++ T) ∧ Below base w wr ∧ base ≤ wr.heap.size) (fun av bv _ => n + 40 - (intOf bv).toNat)
  case atStart =>
    exact ⟨0, 20, [], X, rfl, rfl, Nat.le_refl _, Nat.le_refl _, rfl, Blks.nil, List.pairwise_singleton _ _, HR0.out.2, List.Perm.refl _, HR0.out.1, Below.refl _ _, hbs⟩
  case round =>
    obtain ⟨a, b, bl, T, rfl, rfl, hab1, hab2, hla, hbk, hcm, hTr, hpm, hrow, hbl, hbsr⟩ := hrel
    have hln := hrow.1
    rw [List.length_append, hla] at hln
    have HG := Lib.hid (And.intro hbk (And.intro hcm (And.intro hTr (And.intro hpm (And.intro hrow (And.intro hbl hbsr)))))); clear hbk hcm hTr hpm hrow hbl hbsr
    by_cases hbn : b ≤ n
    · have hbn1 : (b : Int) ≤ n := by omega
      have w1 : IntKind.i64.wrap ((b : Int) + 20) = b + 20 := IntWalk.i64_in _ (by omega)
      have hTT : T.take 20 ++ T.drop 20 = T := List.take_append_drop _ _
      have hl20 : (T.take 20).length = 20 := by rw [List.length_take]; omega
      have HS := Lib.hid (insertMK_any cmp HC HCC.out wr base A c n a b bl.flatten (T.take 20) (T.drop 20) hn hla (by omega) (HG.out.2.2.1.sublist (List.take_sublist _ _)) HG.out.2.2.2.2.2.2 (by rw [List.append_assoc, hTT]; exact HG.out.2.2.2.2.1))
      have HT := Lib.hid (And.intro hTT hl20); clear hTT hl20
      go_wp2_with fail
      refine HS.out.mono ?_
      rintro e w3 ⟨rfl, Y, hY1, hY2, hr3, hb3⟩
      have H3 := Lib.hid (And.intro hY1 (And.intro hY2 (And.intro hr3 (And.intro (HG.out.2.2.2.2.2.1.trans hb3) (Nat.le_trans HG.out.2.2.2.2.2.2 hb3.size))))); clear hY1 hY2 hr3 hb3 HS
      have hYl : Y.length = 20 := by rw [H3.out.1.length_eq, HT.out.2]
      go_wp2_with fail
      go_roundw
      case rel =>
        have hf : (bl ++ [Y]).flatten = bl.flatten ++ Y := by simp
        refine ⟨b, b + 20, bl ++ [Y], T.drop 20, by go_num, by go_num, Nat.le_refl _, Nat.le_refl _, ?_, HG.out.1.snoc hYl H3.out.2.1, ?_, HG.out.2.2.1.sublist (List.drop_sublist _ _), ?_, ?_, H3.out.2.2.2.1, H3.out.2.2.2.2⟩
        · rw [hf, List.length_append, hla, hYl]; omega
        · exact came_cut (by rw [HT.out.1]; exact HG.out.2.1) (by rw [HT.out.1]; exact HG.out.2.2.1) H3.out.1
        · rw [hf, List.append_assoc]
          refine List.Perm.trans (List.Perm.append_left _ (List.Perm.append_right _ H3.out.1)) ?_
          rw [HT.out.1]; exact HG.out.2.2.2.1
        · rw [hf]; exact H3.out.2.2.1
      case measure => simp [intOf]; omega
    · have hbn1 : ¬ (b : Int) ≤ n := by omega
      have HS := Lib.hid (insertMK_any cmp HC HCC.out wr base A c n a n bl.flatten T [] hn hla (by omega) HG.out.2.2.1 HG.out.2.2.2.2.2.2 (by rw [List.append_nil]; exact HG.out.2.2.2.2.1))
      go_wp2_with fail
      refine HS.out.mono ?_
      rintro e w3 ⟨rfl, Y, hY1, hY2, hr3, hb3⟩
      rw [List.append_nil] at hr3
      have HSO := Lib.hid (show Sorts cmp 20 X (bl.flatten ++ Y) from ⟨bl, Y, rfl, HG.out.1, by rw [hY1.length_eq]; omega, hY2, by
        refine List.pairwise_append.2 ⟨(List.pairwise_append.1 HG.out.2.1).1, List.pairwise_singleton _ _, fun Z hZ V hV => ?_⟩
        rw [List.mem_singleton.1 hV]
        exact ((List.pairwise_append.1 HG.out.2.1).2.2 Z hZ T (by simp)).perm (List.Perm.refl _) hY1, (List.Perm.append_left _ hY1).trans HG.out.2.2.2.1⟩)
      have H3 := Lib.hid (And.intro hr3 (And.intro (HG.out.2.2.2.2.2.1.trans hb3) (Nat.le_trans HG.out.2.2.2.2.2.2 hb3.size))); clear hY1 hY2 hr3 hb3 HS
      go_wp2_with fail
      go_loopw [6, 7, 8, 9] (fun sv _ _ _ wr => ∃ (bs : Nat) (l : List eDMK), sv = .int .i64 bs ∧ 20 ≤ bs ∧ bs ≤ 2000000 ∧ Sorts cmp bs X l ∧ RowDMK wr base (.slice A n c) n l ∧ Below base w wr ∧ base ≤ wr.heap.size) (fun sv _ _ _ _ => n - (intOf sv).toNat)
      case atStart => exact ⟨20, _, rfl, Nat.le_refl _, by omega, HSO.out, H3.out⟩
      case round =>
        obtain ⟨bs, l, rfl, hbs20, hbsm, hso, hrow, hbl, hbsr2⟩ := hrel
        have hll := hrow.1
        by_cases hlt : bs < n
        · have hlt1 : (bs : Int) < n := by omega
          obtain ⟨bl0, F, hlE, hB0, hF, hFu, hCm, hPm⟩ := hso
          have HG2 := Lib.hid (And.intro hlE (And.intro hB0 (And.intro hF (And.intro hFu (And.intro hCm (And.intro hPm (And.intro hrow (And.intro hbl hbsr2)))))))); clear hlE hB0 hF hFu hCm hPm hrow hbl hbsr2
          have w2 : IntKind.i64.wrap (2 * (bs : Int)) = 2 * bs := IntWalk.i64_in _ (by omega)
          have w22 : IntKind.i64.wrap ((bs : Int) * 2) = bs * 2 := IntWalk.i64_in _ (by omega)
          go_wp2_with fail
          go_loopw [7, 8] (fun av bv wr => ∃ (a b : Nat) (Dl El : List (List eDMK)), av = .int .i64 a ∧ bv = .int .i64 b ∧ a + 2 * bs ≤ b ∧ b ≤ a + 2 * bs ∧ Dl.flatten.length = a ∧ Blks cmp (2 * bs) Dl ∧ Blks cmp bs El ∧ (Dl ++ (El ++ [F])).Pairwise Came ∧ (Dl.flatten ++ (El.flatten ++ F)).Perm X ∧ RowDMK wr base (.slice A n c) n (Dl.flatten ++ (El.flatten ++ F)) ∧ Below base w wr ∧ base ≤ wr.heap.size) (fun av bv _ => n + 4000000 - (intOf bv).toNat)
          case atStart =>
            refine ⟨0, 2 * bs, [], bl0, rfl, by go_num, by omega, by omega, rfl, Blks.nil, HG2.out.2.1, HG2.out.2.2.2.2.1, ?_, ?_, HG2.out.2.2.2.2.2.2.2⟩
            · have := HG2.out.2.2.2.2.2.1
              rw [HG2.out.1] at this
              exact this
            · have := HG2.out.2.2.2.2.2.2.1
              rw [HG2.out.1] at this
              exact this
          case round =>
            obtain ⟨a, b, Dl, El, rfl, rfl, hab1, hab2, hla, hDk, hEk, hcm, hpm, hrow, hbl, hbsr3⟩ := hrel
            have hln := hrow.1
            rw [List.length_append, List.length_append, hla] at hln
            have HK := Lib.hid (And.intro hDk (And.intro hEk (And.intro hcm (And.intro hpm (And.intro hrow (And.intro hbl hbsr3)))))); clear hDk hEk hcm hpm hrow hbl hbsr3
            have hFl := HG2.out.2.2.1
            by_cases hbn : b ≤ n
            · have hbn1 : (b : Int) ≤ n := by omega
              have wm : IntKind.i64.wrap ((a : Int) + bs) = a + bs := IntWalk.i64_in _ (by omega)
              have wb : IntKind.i64.wrap ((b : Int) + 2 * bs) = b + 2 * bs := IntWalk.i64_in _ (by omega)
              obtain ⟨B1, B2, E', rfl⟩ : ∃ B1 B2 E', El = B1 :: B2 :: E' := by
                rcases El with _ | ⟨B1, _ | ⟨B2, E'⟩⟩
                · simp only [List.flatten_nil, List.length_nil] at hln; omega
                · have := (HK.out.2.1 B1 (by simp)).1
                  simp only [List.flatten_cons, List.flatten_nil, List.append_nil] at hln; omega
                · exact ⟨B1, B2, E', rfl⟩
              have k1 := HK.out.2.1 B1 (by simp)
              have k2 := HK.out.2.1 B2 (by simp)
              have hc12 : Came B1 B2 := (List.pairwise_cons.1 (List.pairwise_append.1 HK.out.2.2.1).2.1).1 B2 (by simp)
              obtain ⟨m, hm⟩ : ∃ m : Nat, ((a : Int) + bs) = m := ⟨a + bs, by omega⟩
              have e1 : Dl.flatten ++ ((B1 :: B2 :: E').flatten ++ F) = Dl.flatten ++ B1 ++ B2 ++ (E'.flatten ++ F) := by simp
              have HS := Lib.hid (symMergeMK_any cmp HC HCC.out base A c n hn (2 * bs + 1) wr a m b Dl.flatten B1 B2 (E'.flatten ++ F) (by omega) hla (by omega) (by omega) (by omega) (by omega) k1.2 k2.2 hc12 HK.out.2.2.2.2.2.2 (by rw [← e1]; exact HK.out.2.2.2.2.1))
              have HB := Lib.hid (And.intro k1 k2); clear k1 k2 hc12 e1
              go_wp2_with fail
              refine HS.out.mono ?_
              rintro e w5 ⟨rfl, M, hM1, hM2, hr3, hb3⟩
              have H5 := Lib.hid (And.intro hM1 (And.intro hM2 (And.intro hr3 (And.intro (HK.out.2.2.2.2.2.1.trans hb3) (Nat.le_trans HK.out.2.2.2.2.2.2 hb3.size))))); clear hM1 hM2 hr3 hb3 HS
              have hMl : M.length = 2 * bs := by rw [H5.out.1.length_eq, List.length_append, HB.out.1.1, HB.out.2.1]; omega
              go_wp2_with fail
              go_roundw
              case rel =>
                have hf : (Dl ++ [M]).flatten = Dl.flatten ++ M := by simp
                refine ⟨b, b + 2 * bs, Dl ++ [M], E', by go_num, by go_num, by omega, by omega, ?_, HK.out.1.snoc hMl H5.out.2.1, fun Y hY => HK.out.2.1 Y (by simp [hY]), ?_, ?_, ?_, H5.out.2.2.2.1, H5.out.2.2.2.2⟩
                · rw [hf, List.length_append, hla, hMl]; omega
                · have h1 := came_two (X2 := E' ++ [F]) HK.out.2.2.1 H5.out.1
                  simpa using h1
                · rw [hf]
                  refine List.Perm.trans ?_ HK.out.2.2.2.1
                  simp only [List.flatten_cons, List.append_assoc]
                  refine List.Perm.append_left _ ?_
                  rw [← List.append_assoc, ← List.append_assoc, ← List.append_assoc]
                  have := List.Perm.append_right (E'.flatten ++ F) H5.out.1
                  simpa using this
                · rw [hf]; exact H5.out.2.2.1
              case measure => simp [intOf]; omega
            · have hbn1 : ¬ (b : Int) ≤ n := by omega
              obtain ⟨m, hm⟩ : ∃ m : Nat, ((a : Int) + bs) = m := ⟨a + bs, by omega⟩
              have wm : IntKind.i64.wrap ((a : Int) + bs) = m := by rw [IntWalk.i64_in _ (by omega)]; omega
              by_cases hmn : m < n
              · have hmn1 : (m : Int) < n := by omega
                obtain ⟨B, rfl⟩ : ∃ B, El = [B] := by
                  rcases El with _ | ⟨B1, _ | ⟨B2, E'⟩⟩
                  · simp only [List.flatten_nil, List.length_nil] at hln; omega
                  · exact ⟨B1, rfl⟩
                  · have k1 := (HK.out.2.1 B1 (by simp)).1
                    have k2 := (HK.out.2.1 B2 (by simp)).1
                    simp only [List.flatten_cons, List.length_append] at hln; omega
                have k1 := HK.out.2.1 B (by simp)
                have hFl0 : 0 < F.length := by
                  simp only [List.flatten_cons, List.flatten_nil, List.append_nil] at hln; omega
                have hmF : m + F.length = n := by
                  simp only [List.flatten_cons, List.flatten_nil, List.append_nil] at hln; omega
                have hcBF : Came B F := (List.pairwise_cons.1 (List.pairwise_append.1 HK.out.2.2.1).2.1).1 F (by simp)
                have e1 : Dl.flatten ++ ([B].flatten ++ F) = Dl.flatten ++ B ++ F ++ [] := by simp
                have HS := Lib.hid (symMergeMK_any cmp HC HCC.out base A c n hn (2 * bs + 1) wr a m n Dl.flatten B F [] (by omega) hla (by omega) hmF (by omega) hFl0 k1.2 HG2.out.2.2.2.1 hcBF HK.out.2.2.2.2.2.2 (by rw [← e1]; exact HK.out.2.2.2.2.1))
                have HB := Lib.hid k1; clear k1 hcBF e1
                go_wp2_with fail
                refine HS.out.mono ?_
                rintro e w5 ⟨rfl, M, hM1, hM2, hr3, hb3⟩
                rw [List.append_nil] at hr3
                have H5 := Lib.hid (And.intro hM1 (And.intro hM2 (And.intro hr3 (And.intro (HK.out.2.2.2.2.2.1.trans hb3) (Nat.le_trans HK.out.2.2.2.2.2.2 hb3.size))))); clear hM1 hM2 hr3 hb3 HS
                have hMl : M.length = bs + F.length := by rw [H5.out.1.length_eq, List.length_append, HB.out.1]
                go_wp2_with fail
                go_roundw
                case rel =>
                  refine ⟨bs * 2, Dl.flatten ++ M, by go_num, by omega, by omega, ⟨Dl, M, rfl, by rw [Nat.mul_comm]; exact HK.out.1, by omega, H5.out.2.1, came_two (X2 := []) HK.out.2.2.1 H5.out.1, ?_⟩, H5.out.2.2.1, H5.out.2.2.2.1, H5.out.2.2.2.2⟩
                  refine List.Perm.trans (List.Perm.append_left _ H5.out.1) ?_
                  have := HK.out.2.2.2.1
                  simpa using this
                case measure => simp [intOf]; omega
              · have hmn1 : ¬ (m : Int) < n := by omega
                have HSO2 := Lib.hid (show Sorts cmp (bs * 2) X (Dl.flatten ++ (El.flatten ++ F)) from by
                  refine ⟨Dl, El.flatten ++ F, rfl, by rw [Nat.mul_comm]; exact HK.out.1, by rw [List.length_append]; omega, ?_, ?_, HK.out.2.2.2.1⟩
                  · rcases El with _ | ⟨B1, E'⟩
                    · exact HG2.out.2.2.2.1
                    · have k1 := HK.out.2.1 B1 (by simp)
                      simp only [List.flatten_cons, List.length_append] at hln
                      have f1 : F = [] := List.eq_nil_of_length_eq_zero (by omega)
                      have f2 : E'.flatten = [] := List.eq_nil_of_length_eq_zero (by omega)
                      rw [List.flatten_cons, f1, f2]
                      simpa using k1.2
                  · rcases El with _ | ⟨B1, E'⟩
                    · exact HK.out.2.2.1
                    · have k1 := HK.out.2.1 B1 (by simp)
                      simp only [List.flatten_cons, List.length_append] at hln
                      have f1 : F = [] := List.eq_nil_of_length_eq_zero (by omega)
                      have f2 : E'.flatten = [] := List.eq_nil_of_length_eq_zero (by omega)
                      rw [List.flatten_cons, f1, f2]
                      have h1 := HK.out.2.2.1
                      simp only [List.append_nil]
                      refine h1.sublist (List.Sublist.append_left ?_ _)
                      exact List.Sublist.cons_cons _ (List.nil_sublist _))
                go_wp2_with fail
                go_roundw
                case rel => exact ⟨bs * 2, _, by go_num, by omega, by omega, HSO2.out, HK.out.2.2.2.2⟩
                case measure => simp [intOf]; omega
        · have hlt1 : ¬ (bs : Int) < n := by omega
          have HD := Lib.hid (hso.done (by omega))
          have HE := Lib.hid (And.intro hrow hbl); clear hso hrow hbl
          go_wp2_with fail
          go_end0
          exact ⟨rfl, l, HD.out.1, HD.out.2, HE.out.1, HE.out.2⟩
set_option maxRecDepth 100000 in
set_option maxHeartbeats 4000000 in
theorem sortStableMK_any (cmp : { s : ByteArray // s.size ≤ 90000 } × Pr → { s : ByteArray // s.size ≤ 90000 } × Pr → Int) (HC : Cmp cmp) (hcall : ∀ W x y, Calls Tryz.prog 102 #[.agg (eCMK x).toArray, .agg (eCMK y).toArray] W fun e w' => e = .returned (.int .i64 (cmp x y)) ∧ Below W.heap.size W w')
    (w : World) (base : Nat) (A : Option Addr) (c : Nat) (n : Nat) (X : List eDMK) (hn : n ≤ 1000000) (hrise : X.Pairwise fun p q => p.2 < q.2) (hbs : base ≤ w.heap.size)
    (hrow : RowDMK w base (.slice A n c) n X) :
    Calls Tryz.prog 101 #[.slice A n c, .func (.func 102) #[] #[]] w fun e w' => e = .returned (.tuple #[]) ∧ ∃ M : List eDMK, M.Perm X ∧ UpS cmp M ∧ RowDMK w' base (.slice A n c) n M ∧ Below base w w' := by
  have HS := Lib.hid (stableMK_any cmp HC hcall w base A c n X hn hrise hbs hrow)
  clear hrow hrise hcall
  go_enter Tryz.func101, Tryz.ntmps101
  go_wp2_with fail
  refine HS.out.mono ?_
  rintro e w3 ⟨rfl, M, h1, h2, h3, h4⟩
  have H3 := Lib.hid (And.intro h1 (And.intro h2 (And.intro h3 h4))); clear h1 h2 h3 h4 HS
  go_wp2_with fail
  go_end0
  exact ⟨rfl, M, H3.out⟩
end Go.Proofs.YtlfeeiloijmagaaGreatDoor
/- tree.All. -/
set_option linter.unusedVariables false
set_option linter.unusedSimpArgs false
namespace Go.Proofs.YtlfeeiloijmagaaGreatDoor
open Go Go.RowKit
open Sw
set_option maxRecDepth 100000 in
theorem treeAll_any (w : World) (bt bm : Nat) (xs : List NE) (h : TreeAt w bt bm xs) :
    Calls Tryz.prog 68 #[.pointer (some ⟨bt, 0, none⟩)] w (SeqOfSN xs w) := by
  have HL := Lib.hid (srtAllSN_any w bm xs h.map)
  have c0 := h.box.cell 0
  simp at c0
  clear h
  go_enter Tryz.func68, Tryz.ntmps68
  go_wp2_with fail
  refine HL.out.mono ?_
  rintro e w1 ⟨gb, v, rfl, h1, h2, h3, h4, h5⟩
  have HF := Lib.hid (⟨gb, v, rfl, h1, h2, h3, h4, h5⟩ : SeqOfSN xs w (.returned (.func (.func 149) #[] #[.pointer (some ⟨gb, 0, none⟩)])) w1)
  clear h1 h2 h3 h4 h5 HL
  go_wp2_with fail
  go_ret
  exact HF.out
end Go.Proofs.YtlfeeiloijmagaaGreatDoor
/- tree.Bytes. -/
set_option linter.unusedVariables false
set_option linter.unusedSimpArgs false
namespace Go.Proofs.YtlfeeiloijmagaaGreatDoor
open Go Go.RowKit Go.Shelf
open Sw
attribute [local go_sem] Oper.semAt_some
theorem res_cellI {P : Program} {fn : Func} {p : Tmp} {ty : TypeId} (h : fn.results = #[.cell p ty]) (tmps : Array Value) (w : World) (g : Nat) (t : TypeId) (v : Value)
    (hp : tmps.getD p undef = .pointer (some ⟨g, 0, none⟩)) (hg : Blk w g t #[v]) (hu : P.underlying ty = some (.int .i64)) : (results fn tmps).run P w = .ok v w := by
  have hp' : tmps[p]?.getD undef = .pointer (some ⟨g, 0, none⟩) := by simpa using hp
  have hc : w.cell? ⟨g, 0, none⟩ = some v := by have := hg.cell 0; simpa using this
  simp [results, h, hp', asAddr, loadVar, isAgg, run_underlying hu, run_load, hc]
/-- the bytes of the entries' data -/
def bytesT (xs : List NE) : Nat := (xs.map fun e => e.2.data.size).sum
theorem bytesT_app (a b : List NE) : bytesT (a ++ b) = bytesT a + bytesT b := by unfold bytesT; rw [List.map_append, List.sum_append]
theorem bytesT_pre {a xs : List NE} (h : a <+: xs) : bytesT a ≤ bytesT xs := by
  obtain ⟨r, rfl⟩ := h
  rw [bytesT_app]
  omega
def ByI (T M : Nat) (pre : List NE) (W : World) : Prop := Blk W T 3 #[.int .i64 (bytesT pre)] ∧ M ≤ W.heap.size
theorem ByI.own (T M : Nat) : Own (ByI T M) := fun _ A B row hs hg hr => ⟨blk_ownF hs.1 hg hr, Nat.le_trans hs.2 hg.size⟩
end Go.Proofs.YtlfeeiloijmagaaGreatDoor
/- The reference's rows of items: Without. -/
set_option linter.unusedVariables false
set_option linter.unusedSimpArgs false
namespace Go.Proofs.YtlfeeiloijmagaaGreatDoor
open Go Go.RowKit
open Sw
theorem itC_one (e : NE) : ∀ u ∈ eCSN e, u.oneCell' = true := eCSN_one e
/-- an item is appended to a row of items -/
theorem OwnIt.app {w' : World} {base g cap n : Nat} {l : List NE} {x : NE} (h : w'.ownsRow base 55 5 (.slice (some ⟨g, 0, none⟩) (n + 1) cap) (n + 1) (l.flatMap eCSN ++ [.string x.1, .int .i64 x.2.kind, .int .i64 x.2.mode, .int .u32 x.2.time, .string x.2.data])) (hn : l.length = n) : OwnIt w' base (.slice (some ⟨g, 0, none⟩) (n + 1) cap) (l ++ [x]) := by
  unfold OwnIt
  rw [List.length_append, List.length_singleton, hn, List.flatMap_append]
  simpa [eCSN] using h
end Go.Proofs.YtlfeeiloijmagaaGreatDoor
/- tree.Items. -/
set_option linter.unusedVariables false
set_option linter.unusedSimpArgs false
namespace Go.Proofs.YtlfeeiloijmagaaGreatDoor
open Go Go.RowKit Go.Shelf
open Sw
attribute [local go_sem] Oper.semAt_some
/-- behind some words: the row in the box holds them, and the iterator lies as it lay -/
def ItI (T gb : Nat) (v : Value) (xs : List NE) (pre : List NE) (W : World) : Prop := gb < W.heap.size ∧ (∃ o, Blk W T 25 #[o] ∧ OwnIt W T o pre) ∧ Blk W gb 104 #[v] ∧ Lies W 115 5 eCSN v xs
theorem ItI.own (T gb : Nat) (v : Value) (xs : List NE) : Own (ItI T gb v xs) := fun _ A B row hs hg hr => ⟨Nat.lt_of_lt_of_le hs.1 hg.size, by obtain ⟨o, h1, h2⟩ := hs.2.1; exact ⟨o, blk_ownF h1 hg hr, own_ownF h2 hg hr⟩, blk_ownF hs.2.2.1 hg hr, hs.2.2.2.ownF hg hr⟩
theorem ItI.below {T gb : Nat} {v : Value} {xs pre : List NE} {A B : World} (hs : ItI T gb v xs pre A) (hb : Below A.heap.size A B) : ItI T gb v xs pre B := ⟨Nat.lt_of_lt_of_le hs.1 hb.size, by obtain ⟨o, h1, h2⟩ := hs.2.1; exact ⟨o, h1.below hb h1.lt, h2.below hb⟩, hs.2.2.1.below hb hs.2.2.1.lt, hs.2.2.2.below hb⟩
end Go.Proofs.YtlfeeiloijmagaaGreatDoor
/- tree.Under$1: what Under leaves out. -/
set_option linter.unusedVariables false
set_option linter.unusedSimpArgs false
namespace Go.Proofs.YtlfeeiloijmagaaGreatDoor
open Go Go.RowKit
open Sw
/-- is an entry neither at a path nor under it? -/
def awayT (p : ByteArray) (x : NE) : Bool := !decide (x.1 = p) && !inS (upsS x.1) p
end Go.Proofs.YtlfeeiloijmagaaGreatDoor
/- slices.Clone of a row of api.Item: the same elements, in memory of the call's own. -/
set_option linter.unusedVariables false
set_option linter.unusedSimpArgs false
namespace Go.Proofs.YtlfeeiloijmagaaGreatDoor
open Go Go.RowKit
open Sw
theorem infoEIT : (Tryz.prog.info? 55).map (fun i => (i.zero, i.size, i.bytes)) = some (some (.agg #[.string ⟨#[]⟩, .int .i64 0, .int .i64 0, .int .u32 0, .string ⟨#[]⟩]), 5, 56) := by kernel_rfl
end Go.Proofs.YtlfeeiloijmagaaGreatDoor
/- sorted.Map[string,swingle/api.Node]: what a map holds; find. -/
set_option linter.unusedVariables false
set_option linter.unusedSimpArgs false
namespace Go.Proofs.YtlfeeiloijmagaaGreatDoor
open Go Go.RowKit
open Sw
/-- an entry's cells -/
def eCIT (e : ByteArray × Nd) : List Value := [.string e.1, .int .i64 e.2.kind, .int .i64 e.2.mode, .int .u32 e.2.time, .string e.2.data]
theorem eCIT_len (e : ByteArray × Nd) : (eCIT e).length = 5 := rfl
theorem eCIT_one (e : ByteArray × Nd) : ∀ u ∈ eCIT e, u.oneCell' = true := by
  intro u hu
  simp only [eCIT, List.mem_cons, List.mem_append, List.not_mem_nil, or_false] at hu
  rcases hu with rfl | rfl | rfl | rfl | rfl <;> rfl
abbrev ordFIT : Value := .func (.func 35) #[] #[]
/-- the map in block bm holds the entries xs -/
structure SMapIT (w : World) (bm : Nat) (xs : List (ByteArray × Nd)) : Prop where
  row : ∃ v, Blk w bm 106 #[ordFIT, v] ∧ w.ownsRow 0 55 5 v xs.length (xs.flatMap eCIT)
  up : Up ordS xs
  ok : ∀ e ∈ xs, okS e.1
end Go.Proofs.YtlfeeiloijmagaaGreatDoor
/- slices.Reverse of a row of api.Item that the call owns. -/
set_option linter.unusedVariables false
set_option linter.unusedSimpArgs false
namespace Go.Proofs.YtlfeeiloijmagaaGreatDoor
open Go Go.RowKit
open Sw
end Go.Proofs.YtlfeeiloijmagaaGreatDoor
/- slices.Insert of one element into a row of api.Item that the call owns. -/
set_option linter.unusedVariables false
set_option linter.unusedSimpArgs false
namespace Go.Proofs.YtlfeeiloijmagaaGreatDoor
open Go Go.RowKit
open Sw
/-- behind the call: a row with one more element -/
def InsPostIT (base n : Nat) (xs : List Value) (row : Option Nat) (w : World) (e : Ending) (w' : World) : Prop :=
  ∃ g cap, e = .returned (.slice (some ⟨g, 0, none⟩) (n + 1) cap) ∧ w'.ownsRow base 55 5 (.slice (some ⟨g, 0, none⟩) (n + 1) cap) (n + 1) xs ∧ w.grownBy w' row ∧ (row = some g ∨ w.heap.size ≤ g)
end Go.Proofs.YtlfeeiloijmagaaGreatDoor
/- slices.Delete of one element out of a row of api.Item that the call owns. -/
set_option linter.unusedVariables false
set_option linter.unusedSimpArgs false
namespace Go.Proofs.YtlfeeiloijmagaaGreatDoor
open Go Go.RowKit
open Sw
/-- behind the call: a row with one element less -/
def DelPostIT (base n : Nat) (xs : List Value) (row : Option Nat) (w : World) (e : Ending) (w' : World) : Prop :=
  ∃ v, e = .returned v ∧ w'.ownsRow base 55 5 v n xs ∧ w.grownBy w' row ∧ v.ownBlock = row
end Go.Proofs.YtlfeeiloijmagaaGreatDoor
/- slices.IndexFunc and slices.DeleteFunc of a row of api.Item that the call owns; the predicate is (*swingle/tree.Tree).Under$1. -/
set_option linter.unusedVariables false
set_option linter.unusedSimpArgs false
namespace Go.Proofs.YtlfeeiloijmagaaGreatDoor
open Go Go.RowKit
open Sw
def IdxPostIT {α : Type} (p : α → Bool) (l : List α) (w : World) (e : Ending) (w' : World) : Prop :=
  ((∃ i : Nat, ∃ h : i < l.length, (∀ m (h : m < l.length), m < i → p l[m] = false) ∧ p l[i] = true ∧ e = .returned (.int .i64 i)) ∨ ((∀ x ∈ l, p x = false) ∧ e = .returned (.int .i64 (-1)))) ∧ Below w.heap.size w w'
/-- behind the call: the row of those that stay -/
def DelFPostIT (base : Nat) (l : List (ByteArray × Nd)) (row : Option Nat) (w : World) (e : Ending) (w' : World) : Prop :=
  ∃ v, e = .returned v ∧ w'.ownsRow base 55 5 v l.length (l.flatMap eCIT) ∧ w.grownBy w' row ∧ v.ownBlock = row
end Go.Proofs.YtlfeeiloijmagaaGreatDoor
/- tree.Under. -/
set_option linter.unusedVariables false
set_option linter.unusedSimpArgs false
namespace Go.Proofs.YtlfeeiloijmagaaGreatDoor
open Go Go.RowKit
open Sw
/-- what stands at a path and under it -/
def undT (p : ByteArray) (xs : List NE) : List NE := xs.filter fun x => !awayT p x
end Go.Proofs.YtlfeeiloijmagaaGreatDoor
