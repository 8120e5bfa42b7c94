/- Several texts, joined for the limit of sixty files; each one opens with its own comment. -/
import Derived.Test.YtlfeeiloijmagaaGreatDoorJoin17
/- slices.SortStableFunc at rows of api.Mark: one block by insertion. -/
set_option linter.unusedVariables false
set_option linter.unusedSimpArgs false
namespace Go.Proofs.YtlfeeiloijmagaaGreatDoor
open Go Go.RowKit
open Sw
abbrev eDMK := ({ s : ByteArray // s.size ≤ 90000 } × Pr) × Nat
def RowDMK (w : World) (base : Nat) (v : Value) (n : Nat) (l : List eDMK) : Prop := l.length = n ∧ w.ownsRow base 74 6 v n ((l.map Prod.fst).flatMap eCMK)
theorem RowDMK.kept {w w' : World} {base n : Nat} {v : Value} {l : List eDMK} (h : RowDMK w base v n l) (hb : Below w.heap.size w w') : RowDMK w' base v n l := ⟨h.1, own_kept h.2 hb⟩
theorem RowDMK.drew {w : World} {base n : Nat} {v : Value} {l : List eDMK} (h : RowDMK w base v n l) : RowDMK w.drew base v n l := ⟨h.1, own_drew h.2⟩
theorem RowDMK.form {w : World} {base n c : Nat} {A : Option Addr} {l : List eDMK} (h : RowDMK w base (.slice A n c) n l) (hn : 0 < n) : ∃ g, A = some ⟨g, 0, none⟩ ∧ base ≤ g ∧ ∃ cur, Blk w g 74 cur ∧ g < w.heap.size := by
  obtain ⟨g, cap, cur, hA, hbg, hB, hnc, hcm, hcs, htk⟩ := own_form h.2 hn
  obtain ⟨rfl, rfl⟩ : A = some ⟨g, 0, none⟩ ∧ c = cap := by injection hA with e1 e2 e3; exact ⟨e1, e3⟩
  exact ⟨g, rfl, hbg, cur, hB, by
    unfold Blk at hB
    exact (Array.getElem?_eq_some_iff.1 hB).1⟩
theorem RowDMK.cell {w : World} {base n c g : Nat} {l : List eDMK} (h : RowDMK w base (.slice (some ⟨g, 0, none⟩) n c) n l) (m : Nat) (x : eDMK) (hm : l[m]? = some x) (q : Nat) (hq : q < 6) : w.cell? ⟨g, m * 6 + q, none⟩ = (eCMK x.1)[q]? := by
  obtain ⟨hml, hmx⟩ := List.getElem?_eq_some_iff.1 hm
  have hmn : m < n := by rw [← h.1]; exact hml
  obtain ⟨g', cap, cur, hA, hbg, hB, hnc, hcm, hcs, htk⟩ := own_form h.2 (by omega)
  obtain ⟨rfl, rfl⟩ : g = g' ∧ c = cap := by
    injection hA with e1 e2 e3
    exact ⟨congrArg Addr.block (Option.some.inj e1), e3⟩
  have h1 := flat_get eCMK_len (l.map Prod.fst) m (by rw [List.length_map]; exact hml) q hq
  have h2 : m * 6 + q < n * 6 := by have : (m + 1) * 6 ≤ n * 6 := Nat.mul_le_mul_right _ hmn; omega
  rw [hB.cell, ← Array.getElem?_toList]
  rw [List.getElem_map, hmx] at h1
  rw [← h1, ← htk, List.getElem?_take, if_pos h2]
theorem RowDMK.swap {w a : World} {base n c g : Nat} {l : List eDMK} (h : RowDMK w base (.slice (some ⟨g, 0, none⟩) n c) n l) (i j : Nat) (x y : eDMK) (hx : l[i]? = some x) (hy : l[j]? = some y) (hB : Below base a w) (hbg : base ≤ g) (hs : base ≤ w.heap.size) :
    RowDMK ((w.setCells g (i * 6) (eCMK y.1)).setCells g (j * 6) (eCMK x.1)) base (.slice (some ⟨g, 0, none⟩) n c) n ((l.set i y).set j x) ∧ Below base a ((w.setCells g (i * 6) (eCMK y.1)).setCells g (j * 6) (eCMK x.1)) := by
  obtain ⟨hil, hix⟩ := List.getElem?_eq_some_iff.1 hx
  obtain ⟨hjl, hjy⟩ := List.getElem?_eq_some_iff.1 hy
  have hin : i < n := by rw [← h.1]; exact hil
  have hjn : j < n := by rw [← h.1]; exact hjl
  have m1 : (i + 1) * 6 ≤ n * 6 := Nat.mul_le_mul_right _ hin
  have m2 : (j + 1) * 6 ≤ n * 6 := Nat.mul_le_mul_right _ hjn
  have h1 := own_setCells (eCMK y.1) (i * 6) w _ h.2 (by rw [eCMK_len]; omega)
  have f1 := flat_put eCMK_len (l.map Prod.fst) i (by rw [List.length_map]; exact hil) y.1 0 (eCMK y.1) (by rw [eCMK_len]; omega) (by simp [eCMK_len])
  simp only [Nat.add_zero] at f1
  rw [f1] at h1
  have h2 := own_setCells (eCMK x.1) (j * 6) _ _ h1 (by rw [eCMK_len]; omega)
  have f2 := flat_put eCMK_len ((l.map Prod.fst).set i y.1) j (by rw [List.length_set, List.length_map]; exact hjl) x.1 0 (eCMK x.1) (by rw [eCMK_len]; omega) (by simp [eCMK_len])
  simp only [Nat.add_zero] at f2
  rw [f2] at h2
  refine ⟨⟨by rw [List.length_set, List.length_set]; exact h.1, ?_⟩, ?_⟩
  · rw [List.map_set, List.map_set]; exact h2
  · exact own_below h.2 hB (grown_setCells (eCMK x.1) (j * 6) _ (grown_setCells (eCMK y.1) (i * 6) w (grown_refl _ _))) (Nat.le_refl _) hs
theorem swap_next {β : Type} (P Q : List β) (x y : β) : ((P ++ y :: x :: Q).set (P.length + 1) y).set P.length x = P ++ x :: y :: Q := by
  simp [List.set_append]
theorem mid_get {β : Type} (P Q : List β) (x : β) : (P ++ x :: Q)[P.length]? = some x := by simp
theorem mid_get1 {β : Type} (P Q : List β) (x y : β) : (P ++ y :: x :: Q)[P.length + 1]? = some x := by
  rw [List.getElem?_append_right (by omega)]; simp
set_option maxRecDepth 100000 in
set_option maxHeartbeats 8000000 in
theorem insertMK_any (cmp : { s : ByteArray // s.size ≤ 90000 } × Pr → { s : ByteArray // s.size ≤ 90000 } × Pr → Int) (HC : Cmp cmp) (hcall : ∀ W x y, Calls Tryz.prog 102 #[.agg (eCMK x).toArray, .agg (eCMK y).toArray] W fun e w' => e = .returned (.int .i64 (cmp x y)) ∧ Below W.heap.size W w')
    (w : World) (base : Nat) (A : Option Addr) (c : Nat) (n a b : Nat) (P X Q : List eDMK) (hn : n ≤ 1000000) (hP : P.length = a) (hX : a + X.length = b) (hrise : X.Pairwise fun p q => p.2 < q.2) (hbs : base ≤ w.heap.size)
    (hrow : RowDMK w base (.slice A n c) n (P ++ X ++ Q)) :
    Calls Tryz.prog 154 #[.slice A n c, .int .i64 a, .int .i64 b, .func (.func 102) #[] #[]] w fun e w' => e = .returned (.tuple #[]) ∧ ∃ Y : List eDMK, Y.Perm X ∧ UpS cmp Y ∧ RowDMK w' base (.slice A n c) n (P ++ Y ++ Q) ∧ Below base w w' := by
  have hlen : a + X.length + Q.length = n := by rw [← hrow.1, ← hP]; simp only [List.length_append]
  have HR0 := Lib.hid (And.intro hrow hrise)
  have HCC := Lib.hid hcall
  clear hrow hrise hcall
  have w0 : IntKind.i64.wrap ((a : Int) + 1) = a + 1 := IntWalk.i64_in _ (by omega)
  have hsz0 := hbs
  go_enter Tryz.func154, Tryz.ntmps154
  go_wp2_with fail
  go_loopw [8] (fun iv wr => ∃ (o : Nat) (S T : List eDMK), iv = .int .i64 o ∧ a + 1 ≤ o ∧ (S ++ T).Perm X ∧ UpS cmp S ∧ a + S.length = min o b ∧ (∀ p ∈ S, ∀ q ∈ T, p.2 < q.2) ∧ (T.Pairwise fun p q => p.2 < q.2) ∧ RowDMK wr base (.slice A n c) n (P ++ S ++ T ++ Q) ∧ Below base w wr ∧ base ≤ wr.heap.size) (fun iv _ => b - (intOf iv).toNat)
  case atStart =>
    refine ⟨a + 1, X.take 1, X.drop 1, by go_num, Nat.le_refl _, by rw [List.take_append_drop], ?_, ?_, ?_, ?_, ?_, Below.refl _ _, hbs⟩
    · rcases X with _ | ⟨x, X⟩
      · exact List.Pairwise.nil
      · exact List.pairwise_singleton _ _
    · rw [List.length_take]; omega
    · exact (List.pairwise_append.1 (by rw [List.take_append_drop]; exact HR0.out.2)).2.2
    · exact HR0.out.2.sublist (List.drop_sublist _ _)
    · have : P ++ X.take 1 ++ X.drop 1 ++ Q = P ++ X ++ Q := by rw [List.append_assoc P, List.take_append_drop]
      rw [this]; exact HR0.out.1
  case round =>
    obtain ⟨o, S, T, rfl, hao, hperm, hup, hSl, hcame, hTr, hrow, hbl, hbsr⟩ := hrel
    have hpl := hperm.length_eq
    rw [List.length_append] at hpl
    have HG := Lib.hid (And.intro hperm (And.intro hup (And.intro hcame (And.intro hTr (And.intro hrow hbl))))); clear hperm hup hcame hTr hrow hbl
    by_cases hob : o < b
    · have hob1 : (o : Int) < b := by omega
      obtain ⟨x, T', rfl⟩ : ∃ x T', T = x :: T' := by
        rcases T with _ | ⟨x, T'⟩
        · simp at hpl; omega
        · exact ⟨x, T', rfl⟩
      have w1 : IntKind.i64.wrap ((o : Int) + 1) = o + 1 := IntWalk.i64_in _ (by omega)
      go_wp2_with fail
      go_loopw [9] (fun jv wr2 => ∃ (i : Nat) (S1 S2 : List eDMK), jv = .int .i64 i ∧ S1 ++ S2 = S ∧ a + S1.length = i ∧ (∀ q ∈ S2, Ah cmp x q) ∧ RowDMK wr2 base (.slice A n c) n (P ++ S1 ++ x :: (S2 ++ T' ++ Q)) ∧ Below base w wr2 ∧ base ≤ wr2.heap.size) (fun jv _ => (intOf jv).toNat)
      case atStart =>
        refine ⟨o, S, [], rfl, List.append_nil _, by omega, (fun q hq => by cases hq), ?_, HG.out.2.2.2.2.2, hbsr⟩
        have : P ++ S ++ x :: ([] ++ T' ++ Q) = P ++ S ++ (x :: T') ++ Q := by simp
        rw [this]; exact HG.out.2.2.2.2.1
      case round =>
        obtain ⟨i, S1, S2, rfl, hSS, hSi, hAh, hrow, hbl, hbsr2⟩ := hrel
        have hS12 : S1.length + S2.length = S.length := by rw [← hSS, List.length_append]
        have H2 := Lib.hid (And.intro hSS (And.intro hAh (And.intro hrow hbl))); clear hSS hAh hrow hbl
        by_cases hia : a < i
        · have hia1 : (a : Int) < i := by omega
          obtain ⟨S0, y, hS0⟩ : ∃ S0 y, S1 = S0 ++ [y] := ⟨S1.dropLast, S1.getLast (by rintro rfl; simp at hSi; omega), (List.dropLast_concat_getLast _).symm⟩
          subst hS0
          rw [List.length_append] at hSi hS12
          simp only [List.length_cons, List.length_nil] at hSi hS12
          obtain ⟨j, hj⟩ : ∃ j : Nat, i = j + 1 := ⟨i - 1, by omega⟩
          have hjP : (P ++ S0).length = j := by rw [List.length_append]; omega
          have hform : P ++ (S0 ++ [y]) ++ x :: (S2 ++ T' ++ Q) = (P ++ S0) ++ y :: x :: (S2 ++ T' ++ Q) := by simp
          obtain ⟨g, rfl, hbg, cur, hB, hgs⟩ := H2.out.2.2.1.form (by omega)
          have hrowf := H2.out.2.2.1
          rw [hform] at hrowf
          have hgi : ((P ++ S0) ++ y :: x :: (S2 ++ T' ++ Q))[i]? = some x := by rw [hj, ← hjP]; exact mid_get1 _ _ _ _
          have hgj : ((P ++ S0) ++ y :: x :: (S2 ++ T' ++ Q))[j]? = some y := by rw [← hjP]; exact mid_get _ _ _
          obtain ⟨w2, hw2⟩ : ∃ w2, wr.drew = w2 := ⟨_, rfl⟩
          have hrow2 := hrowf.drew
          rw [hw2] at hrow2
          have hci := hrow2.cell i x hgi
          have hcj := hrow2.cell j y hgj
          have a0 : w2.cell? ⟨g, i * 6, none⟩ = _ := hci 0 (by omega)
          have a1 : w2.cell? ⟨g, i * 6 + 1, none⟩ = _ := hci 1 (by omega)
          have a2 : w2.cell? ⟨g, i * 6 + 2, none⟩ = _ := hci 2 (by omega)
          have a3 : w2.cell? ⟨g, i * 6 + 3, none⟩ = _ := hci 3 (by omega)
          have a4 : w2.cell? ⟨g, i * 6 + 4, none⟩ = _ := hci 4 (by omega)
          have a5 : w2.cell? ⟨g, i * 6 + 5, none⟩ = _ := hci 5 (by omega)
          simp only [eCMK, List.getElem?_cons_succ, List.getElem?_cons_zero] at a0 a1 a2 a3 a4 a5
          have b0 : w2.cell? ⟨g, j * 6, none⟩ = _ := hcj 0 (by omega)
          have b1 : w2.cell? ⟨g, j * 6 + 1, none⟩ = _ := hcj 1 (by omega)
          have b2 : w2.cell? ⟨g, j * 6 + 2, none⟩ = _ := hcj 2 (by omega)
          have b3 : w2.cell? ⟨g, j * 6 + 3, none⟩ = _ := hcj 3 (by omega)
          have b4 : w2.cell? ⟨g, j * 6 + 4, none⟩ = _ := hcj 4 (by omega)
          have b5 : w2.cell? ⟨g, j * 6 + 5, none⟩ = _ := hcj 5 (by omega)
          simp only [eCMK, List.getElem?_cons_succ, List.getElem?_cons_zero] at b0 b1 b2 b3 b4 b5
          clear hci hcj
          have HCL := Lib.hid (HCC.out w2 x.1 y.1)
          have HX := Lib.hid (And.intro hrow2 (And.intro hgi (And.intro hgj hform))); clear hrow2 hrowf hgi hgj hform
          have wj : IntKind.i64.wrap ((i : Int) - 1) = j := by rw [IntWalk.i64_in _ (by omega)]; omega
          have q1 : (i : Int) < n := by omega
          have q2 : (j : Int) < n := by omega
          have HJ := Lib.hid (And.intro hj hjP); clear hj hjP
          have hgd : decide ((a : Int) < i) = true := decide_eq_true hia1
          go_wp2_with fail
          refine region_tail 14 (by kernel_rfl) (by kernel_rfl) w2 hw2 ?_
          simp only [List.take_succ_cons, List.take_zero, List.drop_succ_cons, List.drop_zero]
          repeat (go_big_quiet_step (fail))
          refine wpQuiet_nil ?_
          go_wp2_with fail
          refine HCL.out.mono ?_
          rintro e w3 ⟨rfl, hb3⟩
          have hrow3 := HX.out.1.kept hb3
          have hbl3 : Below base w w3 := by
            have h1 : Below base w w2 := by rw [← hw2]; exact H2.out.2.2.2.drew
            exact h1.trans (hb3.mono (by rw [← hw2]; exact hbsr2))
          have hs3 : base ≤ w3.heap.size := Nat.le_trans hbsr2 (by have := hb3.size; rw [← hw2] at this; exact this)
          have H3 := Lib.hid (And.intro hrow3 (And.intro hbl3 hs3)); clear hb3 hbl3 hrow3 HCL
          by_cases hcx : cmp x.1 y.1 < 0
          · have hcd : decide (cmp x.1 y.1 < 0) = true := decide_eq_true hcx
            clear a0 b0 a1 b1 a2 b2 a3 b3 a4 b4 a5 b5
            go_wp2_with fail
            obtain ⟨g', hge, hbg3, cur3, hB, hgs3⟩ := H3.out.1.form (by omega)
            obtain rfl : g = g' := congrArg Addr.block (Option.some.inj hge)
            have hci := H3.out.1.cell i x HX.out.2.1
            have hcj := H3.out.1.cell j y HX.out.2.2.1
            have a0 : w3.cell? ⟨g, i * 6, none⟩ = _ := hci 0 (by omega)
            have a1 : w3.cell? ⟨g, i * 6 + 1, none⟩ = _ := hci 1 (by omega)
            have a2 : w3.cell? ⟨g, i * 6 + 2, none⟩ = _ := hci 2 (by omega)
            have a3 : w3.cell? ⟨g, i * 6 + 3, none⟩ = _ := hci 3 (by omega)
            have a4 : w3.cell? ⟨g, i * 6 + 4, none⟩ = _ := hci 4 (by omega)
            have a5 : w3.cell? ⟨g, i * 6 + 5, none⟩ = _ := hci 5 (by omega)
            simp only [eCMK, List.getElem?_cons_succ, List.getElem?_cons_zero] at a0 a1 a2 a3 a4 a5
            have b0 : w3.cell? ⟨g, j * 6, none⟩ = _ := hcj 0 (by omega)
            have b1 : w3.cell? ⟨g, j * 6 + 1, none⟩ = _ := hcj 1 (by omega)
            have b2 : w3.cell? ⟨g, j * 6 + 2, none⟩ = _ := hcj 2 (by omega)
            have b3 : w3.cell? ⟨g, j * 6 + 3, none⟩ = _ := hcj 3 (by omega)
            have b4 : w3.cell? ⟨g, j * 6 + 4, none⟩ = _ := hcj 4 (by omega)
            have b5 : w3.cell? ⟨g, j * 6 + 5, none⟩ = _ := hcj 5 (by omega)
            simp only [eCMK, List.getElem?_cons_succ, List.getElem?_cons_zero] at b0 b1 b2 b3 b4 b5
            have fa0 := hB.frozen (i * 6)
            have fa1 := hB.frozen (i * 6 + 1)
            have fa2 := hB.frozen (i * 6 + 2)
            have fa3 := hB.frozen (i * 6 + 3)
            have fa4 := hB.frozen (i * 6 + 4)
            have fa5 := hB.frozen (i * 6 + 5)
            have fb0 := hB.frozen (j * 6)
            have fb1 := hB.frozen (j * 6 + 1)
            have fb2 := hB.frozen (j * 6 + 2)
            have fb3 := hB.frozen (j * 6 + 3)
            have fb4 := hB.frozen (j * 6 + 4)
            have fb5 := hB.frozen (j * 6 + 5)
            have HSW := Lib.hid (H3.out.1.swap i j x y HX.out.2.1 HX.out.2.2.1 H3.out.2.1 hbg H3.out.2.2)
            clear hci hcj hB hge
            have q3 : i ≠ j := by have := HJ.out.1; omega
            have hszs : base ≤ ((w3.setCells g (i * 6) (eCMK y.1)).setCells g (j * 6) (eCMK x.1)).heap.size := by have := (grown_setCells (eCMK x.1) (j * 6) _ (grown_setCells (eCMK y.1) (i * 6) w3 (grown_refl w3 (some g)))).size; exact Nat.le_trans H3.out.2.2 this
            have HZ := Lib.hid hszs; clear hszs
            go_region
            all_goals
              go_wp2_with fail
              go_roundw
              case rel =>
                have HSV := HSW.out
                simp only [eCMK, World.setCells, Nat.add_assoc, Nat.reduceAdd] at HSV
                refine ⟨j, S0, y :: S2, by go_num, by have := H2.out.1; simpa using this, by have := HJ.out.1; omega, fun q hq => ?_, ?_, ?_, ?_⟩
                · rcases List.mem_cons.1 hq with rfl | hq
                  · exact .inl hcx
                  · exact H2.out.2.1 q hq
                · have h1 := HSV.1
                  have hls : (((P ++ S0) ++ y :: x :: (S2 ++ T' ++ Q)).set i y).set j x = P ++ S0 ++ x :: y :: (S2 ++ T' ++ Q) := by rw [HJ.out.1, ← HJ.out.2]; exact swap_next _ _ _ _
                  rw [hls] at h1
                  have e1 : P ++ S0 ++ x :: y :: (S2 ++ T' ++ Q) = P ++ S0 ++ x :: (y :: S2 ++ T' ++ Q) := rfl
                  rw [e1] at h1
                  first | exact h1.drew | exact h1
                · first | exact HSV.2.drew | exact HSV.2
                · have hzz := H3.out.2.2
                  simpa using hzz
              case measure => simp [intOf]; have := HJ.out.1; omega
          · have hcd : decide (cmp x.1 y.1 < 0) = false := decide_eq_false hcx
            have HIR := Lib.hid (ins_round H2.out.1 HG.out.1 HG.out.2.1 HG.out.2.2.1 HG.out.2.2.2.1 (UpS.lead HC (by have := HG.out.2.1; rw [← H2.out.1] at this; exact this.left) ((Ah.of_left HC (HG.out.2.2.1 y (by rw [← H2.out.1]; simp) x (List.mem_cons_self ..))).2 hcx)) H2.out.2.1)
            go_wp2_with fail
            go_roundw
            case rel =>
              refine ⟨o + 1, (S0 ++ [y]) ++ x :: S2, T', by go_num, by omega, HIR.out.1, HIR.out.2.1, ?_, HIR.out.2.2.1, HIR.out.2.2.2, ?_, H3.out.2.1, H3.out.2.2⟩
              · simp only [List.length_append, List.length_cons, List.length_nil]; omega
              · have h1 := H3.out.1
                rw [← HX.out.2.2.2] at h1
                have e1 : P ++ (S0 ++ [y]) ++ x :: (S2 ++ T' ++ Q) = P ++ ((S0 ++ [y]) ++ x :: S2) ++ T' ++ Q := by simp
                rw [e1] at h1
                exact h1
            case measure => simp [intOf]; omega
        · have hgd : decide ((a : Int) < i) = false := decide_eq_false (by omega)
          obtain rfl : S1 = [] := List.eq_nil_of_length_eq_zero (by omega)
          have HIR := Lib.hid (ins_round H2.out.1 HG.out.1 HG.out.2.1 HG.out.2.2.1 HG.out.2.2.2.1 (fun p hp => by cases hp) H2.out.2.1)
          go_wp2_with fail
          go_quiet (fail)
          go_wp2_with fail
          go_roundw
          case rel =>
            refine ⟨o + 1, [] ++ x :: S2, T', by go_num, by omega, HIR.out.1, HIR.out.2.1, ?_, HIR.out.2.2.1, HIR.out.2.2.2, ?_, below_drewN H2.out.2.2.2 _, hbsr2⟩
            · simp only [List.length_append, List.length_cons, List.length_nil]; simp only [List.length_nil] at hS12; omega
            · have h1 := H2.out.2.2.1
              have e1 : P ++ [] ++ x :: (S2 ++ T' ++ Q) = P ++ ([] ++ x :: S2) ++ T' ++ Q := by simp
              rw [e1] at h1
              exact h1.kept (below_drewN (Below.refl _ _) _)
          case measure => simp [intOf]; omega
    · obtain rfl : T = [] := by
        rcases T with _ | ⟨x, T'⟩
        · rfl
        · simp at hpl; omega
      go_wp2_with fail
      go_end0
      exact ⟨rfl, S, by have := HG.out.1; rwa [List.append_nil] at this, HG.out.2.1, by have := HG.out.2.2.2.2.1; rwa [List.append_nil] at this, HG.out.2.2.2.2.2⟩
end Go.Proofs.YtlfeeiloijmagaaGreatDoor
/- slices.SortStableFunc at rows of api.Mark: one thing merged with a block behind it. -/
set_option linter.unusedVariables false
set_option linter.unusedSimpArgs false
namespace Go.Proofs.YtlfeeiloijmagaaGreatDoor
open Go Go.RowKit
open Sw
def MergePostMK (cmp : { s : ByteArray // s.size ≤ 90000 } × Pr → { s : ByteArray // s.size ≤ 90000 } × Pr → Int) (w : World) (base : Nat) (A : Option Addr) (c n : Nat) (P X Q : List eDMK) (e : Ending) (w' : World) : Prop :=
  e = .returned (.tuple #[]) ∧ ∃ M : List eDMK, M.Perm X ∧ UpS cmp M ∧ RowDMK w' base (.slice A n c) n (P ++ M ++ Q) ∧ Below base w w'
theorem swap_next2 {β : Type} (P Q : List β) (x y : β) : ((P ++ x :: y :: Q).set P.length y).set (P.length + 1) x = P ++ y :: x :: Q := by
  simp [List.set_append]
theorem get_r {β : Type} (P R Q : List β) (x y : β) (k : Nat) (h : R[k]? = some y) : (P ++ x :: (R ++ Q))[P.length + 1 + k]? = some y := by
  rw [List.getElem?_append_right (by omega)]
  have e : P.length + 1 + k - P.length = k + 1 := by omega
  rw [e, List.getElem?_cons_succ, List.getElem?_append_left (List.getElem?_eq_some_iff.1 h).1, h]
set_option maxRecDepth 100000 in
set_option maxHeartbeats 8000000 in
theorem mergeLMK_any (cmp : { s : ByteArray // s.size ≤ 90000 } × Pr → { s : ByteArray // s.size ≤ 90000 } × Pr → Int) (HC : Cmp cmp) (hcall : ∀ W x y, Calls Tryz.prog 102 #[.agg (eCMK x).toArray, .agg (eCMK y).toArray] W fun e w' => e = .returned (.int .i64 (cmp x y)) ∧ Below W.heap.size W w')
    (w : World) (base : Nat) (A : Option Addr) (c : Nat) (n a m b : Nat) (P R Q : List eDMK) (x : eDMK) (hn : n ≤ 1000000) (hP : P.length = a) (hm : m = a + 1) (hR : m + R.length = b) (hup : UpS cmp R) (hcame : ∀ q ∈ R, x.2 < q.2) (hbs : base ≤ w.heap.size)
    (hrow : RowDMK w base (.slice A n c) n (P ++ x :: (R ++ Q))) :
    Calls Tryz.prog 155 #[.slice A n c, .int .i64 a, .int .i64 m, .int .i64 b, .func (.func 102) #[] #[]] w (MergePostMK cmp w base A c n P (x :: R) Q) := by
  have hlen : m + R.length + Q.length = n := by rw [← hrow.1, hm, ← hP]; simp only [List.length_append, List.length_cons]; omega
  obtain ⟨g, rfl, hbg, cur0, hB0, hgs0⟩ := hrow.form (by omega)
  have HR0 := Lib.hid (And.intro hrow (And.intro hup hcame))
  have HCC := Lib.hid hcall
  clear hrow hup hcame hcall hB0
  have w0 : IntKind.i64.wrap ((m : Int) - a) = 1 := by rw [IntWalk.i64_in _ (by omega)]; omega
  have hm1 : a < m := by omega
  have hm2 : m ≤ a + 1 := by omega
  clear hm
  go_enter Tryz.func155, Tryz.ntmps155
  go_wp2_with fail
  go_loopw [10, 11] (fun iv jv wr => ∃ (i j : Nat), iv = .int .i64 i ∧ jv = .int .i64 j ∧ m ≤ i ∧ i ≤ j ∧ j ≤ b ∧ (∀ z, 0 < i - m → R[i - m - 1]? = some z → Ah cmp z x) ∧ (∀ z, R[j - m]? = some z → Ah cmp x z) ∧ RowDMK wr base (.slice (some ⟨g, 0, none⟩) n c) n (P ++ x :: (R ++ Q)) ∧ Below base w wr ∧ base ≤ wr.heap.size) (fun iv jv _ => (intOf jv - intOf iv).toNat)
  case atStart =>
    refine ⟨m, b, rfl, rfl, Nat.le_refl _, by omega, Nat.le_refl _, fun z h => (by omega), fun z h => ?_, HR0.out.1, Below.refl _ _, hbs⟩
    have := (List.getElem?_eq_some_iff.1 h).1
    omega
  case round =>
    obtain ⟨i, j, rfl, rfl, hmi, hij, hjb, hlo, hhi, hrow, hbl, hbsr⟩ := hrel
    have HG := Lib.hid (And.intro hlo (And.intro hhi (And.intro hrow hbl))); clear hlo hhi hrow hbl
    by_cases hlt : i < j
    · have hlt1 : (i : Int) < j := by omega
      obtain ⟨h, hh⟩ : ∃ h : Nat, ((i : Int) + j) / 2 = h := ⟨(i + j) / 2, by omega⟩
      have hih : i ≤ h := by omega
      have hhj : h < j := by omega
      obtain ⟨y, hy⟩ : ∃ y, R[h - m]? = some y := ⟨_, List.getElem?_eq_getElem (by omega)⟩
      have hyR : y ∈ R := List.mem_of_getElem? hy
      obtain ⟨w2, hw2⟩ : ∃ w2, wr.drew = w2 := ⟨_, rfl⟩
      have hrow2 := HG.out.2.2.1.drew
      rw [hw2] at hrow2
      have hgx : (P ++ x :: (R ++ Q))[a]? = some x := by rw [← hP]; exact mid_get _ _ _
      have hgy : (P ++ x :: (R ++ Q))[h]? = some y := by
        have := get_r P R Q x y (h - m) hy
        rwa [show P.length + 1 + (h - m) = h by omega] at this
      have hcx := hrow2.cell a x hgx
      have hcy := hrow2.cell h y hgy
      have a0 : w2.cell? ⟨g, a * 6, none⟩ = _ := hcx 0 (by omega)
      have a1 : w2.cell? ⟨g, a * 6 + 1, none⟩ = _ := hcx 1 (by omega)
      have a2 : w2.cell? ⟨g, a * 6 + 2, none⟩ = _ := hcx 2 (by omega)
      have a3 : w2.cell? ⟨g, a * 6 + 3, none⟩ = _ := hcx 3 (by omega)
      have a4 : w2.cell? ⟨g, a * 6 + 4, none⟩ = _ := hcx 4 (by omega)
      have a5 : w2.cell? ⟨g, a * 6 + 5, none⟩ = _ := hcx 5 (by omega)
      simp only [eCMK, List.getElem?_cons_succ, List.getElem?_cons_zero] at a0 a1 a2 a3 a4 a5
      have b0 : w2.cell? ⟨g, h * 6, none⟩ = _ := hcy 0 (by omega)
      have b1 : w2.cell? ⟨g, h * 6 + 1, none⟩ = _ := hcy 1 (by omega)
      have b2 : w2.cell? ⟨g, h * 6 + 2, none⟩ = _ := hcy 2 (by omega)
      have b3 : w2.cell? ⟨g, h * 6 + 3, none⟩ = _ := hcy 3 (by omega)
      have b4 : w2.cell? ⟨g, h * 6 + 4, none⟩ = _ := hcy 4 (by omega)
      have b5 : w2.cell? ⟨g, h * 6 + 5, none⟩ = _ := hcy 5 (by omega)
      simp only [eCMK, List.getElem?_cons_succ, List.getElem?_cons_zero] at b0 b1 b2 b3 b4 b5
      clear hcx hcy
      have HCL := Lib.hid (HCC.out w2 y.1 x.1)
      have HX := Lib.hid (And.intro hrow2 (And.intro hy hyR)); clear hrow2 hy hyR hgx hgy
      have q1 : (i : Int) + j ≤ 2000000 := by omega
      have q2 : (h : Int) < n := by omega
      have q3 : (a : Int) < n := by omega
      have wh : IntKind.i64.wrap ((h : Int) + 1) = h + 1 := IntWalk.i64_in _ (by omega)
      go_wp2_with fail
      refine region_tail 9 (by kernel_rfl) (by kernel_rfl) w2 hw2 ?_
      simp only [List.take_succ_cons, List.take_zero, List.drop_succ_cons, List.drop_zero]
      repeat (go_big_quiet_step (fail))
      refine wpQuiet_nil ?_
      go_wp2_with fail
      refine HCL.out.mono ?_
      rintro e w3 ⟨rfl, hb3⟩
      have hrow3 := HX.out.1.kept hb3
      have hbl3 : Below base w w3 := by
        have h1 : Below base w w2 := by rw [← hw2]; exact HG.out.2.2.2.drew
        exact h1.trans (hb3.mono (by rw [← hw2]; exact hbsr))
      have hs3 : base ≤ w3.heap.size := Nat.le_trans hbsr (by have := hb3.size; rw [← hw2] at this; exact this)
      have H3 := Lib.hid (And.intro hrow3 (And.intro hbl3 hs3)); clear hb3 hbl3 hrow3 HCL
      by_cases hcm : cmp y.1 x.1 < 0
      · have hcd : decide (cmp y.1 x.1 < 0) = true := decide_eq_true hcm
        go_wp2_with fail
        go_roundw
        case rel =>
          refine ⟨h + 1, j, by go_num, rfl, by omega, by omega, hjb, fun z _ hz => ?_, HG.out.2.1, H3.out.1, H3.out.2.1, H3.out.2.2⟩
          rw [show h + 1 - m - 1 = h - m by omega, HX.out.2.1] at hz
          cases hz
          exact .inl hcm
        case measure => simp [intOf]; omega
      · have hcd : decide (cmp y.1 x.1 < 0) = false := decide_eq_false hcm
        go_wp2_with fail
        go_roundw
        case rel =>
          refine ⟨i, h, rfl, by go_num, hmi, hih, by omega, HG.out.1, fun z hz => ?_, H3.out.1, H3.out.2.1, H3.out.2.2⟩
          rw [HX.out.2.1] at hz
          cases hz
          exact (Ah.of_left HC (HR0.out.2.2 y HX.out.2.2)).2 (by omega)
        case measure => simp [intOf]; omega
    · obtain rfl : i = j := by omega
      clear hlt hij
      obtain ⟨R1, hR1⟩ : ∃ R1, R.take (i - m) = R1 := ⟨_, rfl⟩
      obtain ⟨R2, hR2⟩ : ∃ R2, R.drop (i - m) = R2 := ⟨_, rfl⟩
      have hl1 : R1.length = i - m := by rw [← hR1, List.length_take]; omega
      have HM := Lib.hid (by
        have h1 := UpS.put HC HR0.out.2.1 (i - m) (by omega) HG.out.1 HG.out.2.1
        have h2 := put_perm R x (i - m)
        rw [hR1, hR2] at h1 h2
        exact And.intro h1 h2)
      have hRR : R1 ++ R2 = R := by rw [← hR1, ← hR2, List.take_append_drop]
      have HRR := Lib.hid hRR; clear hRR hR1 hR2
      have wi : IntKind.i64.wrap ((i : Int) - 1) = i - 1 := IntWalk.i64_in _ (by omega)
      go_wp2_with fail
      go_loopw [13] (fun kv wr2 => ∃ (k : Nat) (V1 V2 : List eDMK), kv = .int .i64 k ∧ V1 ++ V2 = R1 ∧ a + V1.length = k ∧ RowDMK wr2 base (.slice (some ⟨g, 0, none⟩) n c) n (P ++ V1 ++ x :: (V2 ++ (R2 ++ Q))) ∧ Below base w wr2 ∧ base ≤ wr2.heap.size) (fun kv _ => i - (intOf kv).toNat)
      case atStart =>
        refine ⟨a, [], R1, rfl, rfl, rfl, ?_, HG.out.2.2.2, hbsr⟩
        have : P ++ [] ++ x :: (R1 ++ (R2 ++ Q)) = P ++ x :: (R ++ Q) := by rw [← HRR.out]; simp
        rw [this]; exact HG.out.2.2.1
      case round =>
        obtain ⟨k, V1, V2, rfl, hVV, hVk, hrow, hbl, hbs2⟩ := hrel
        have hV12 : V1.length + V2.length = R1.length := by rw [← hVV, List.length_append]
        have H2 := Lib.hid (And.intro hVV (And.intro hrow hbl)); clear hVV hrow hbl
        by_cases hki : k + 1 < i
        · have hki1 : (k : Int) < (i : Int) - 1 := by omega
          obtain ⟨y, V3, rfl⟩ : ∃ y V3, V2 = y :: V3 := by
            rcases V2 with _ | ⟨y, V3⟩
            · simp only [List.length_nil] at hV12; omega
            · exact ⟨y, V3, rfl⟩
          simp only [List.length_cons] at hV12
          obtain ⟨k1, hk1⟩ : ∃ k1 : Nat, k1 = k + 1 := ⟨_, rfl⟩
          have hPV : (P ++ V1).length = k := by rw [List.length_append]; omega
          have hgx : ((P ++ V1) ++ x :: (y :: V3 ++ (R2 ++ Q)))[k]? = some x := by rw [← hPV]; exact mid_get _ _ _
          have hgy : ((P ++ V1) ++ x :: (y :: V3 ++ (R2 ++ Q)))[k1]? = some y := by rw [hk1, ← hPV]; exact mid_get1 _ _ _ _
          have hcx := H2.out.2.1.cell k x hgx
          have hcy := H2.out.2.1.cell k1 y hgy
          have a0 : wr.cell? ⟨g, k * 6, none⟩ = _ := hcx 0 (by omega)
          have a1 : wr.cell? ⟨g, k * 6 + 1, none⟩ = _ := hcx 1 (by omega)
          have a2 : wr.cell? ⟨g, k * 6 + 2, none⟩ = _ := hcx 2 (by omega)
          have a3 : wr.cell? ⟨g, k * 6 + 3, none⟩ = _ := hcx 3 (by omega)
          have a4 : wr.cell? ⟨g, k * 6 + 4, none⟩ = _ := hcx 4 (by omega)
          have a5 : wr.cell? ⟨g, k * 6 + 5, none⟩ = _ := hcx 5 (by omega)
          simp only [eCMK, List.getElem?_cons_succ, List.getElem?_cons_zero] at a0 a1 a2 a3 a4 a5
          have b0 : wr.cell? ⟨g, k1 * 6, none⟩ = _ := hcy 0 (by omega)
          have b1 : wr.cell? ⟨g, k1 * 6 + 1, none⟩ = _ := hcy 1 (by omega)
          have b2 : wr.cell? ⟨g, k1 * 6 + 2, none⟩ = _ := hcy 2 (by omega)
          have b3 : wr.cell? ⟨g, k1 * 6 + 3, none⟩ = _ := hcy 3 (by omega)
          have b4 : wr.cell? ⟨g, k1 * 6 + 4, none⟩ = _ := hcy 4 (by omega)
          have b5 : wr.cell? ⟨g, k1 * 6 + 5, none⟩ = _ := hcy 5 (by omega)
          simp only [eCMK, List.getElem?_cons_succ, List.getElem?_cons_zero] at b0 b1 b2 b3 b4 b5
          obtain ⟨g', hge, hbg3, cur3, hB, hgs3⟩ := H2.out.2.1.form (by omega)
          obtain rfl : g = g' := congrArg Addr.block (Option.some.inj hge)
          have fa0 := hB.frozen (k * 6)
          have fa1 := hB.frozen (k * 6 + 1)
          have fa2 := hB.frozen (k * 6 + 2)
          have fa3 := hB.frozen (k * 6 + 3)
          have fa4 := hB.frozen (k * 6 + 4)
          have fa5 := hB.frozen (k * 6 + 5)
          have fb0 := hB.frozen (k1 * 6)
          have fb1 := hB.frozen (k1 * 6 + 1)
          have fb2 := hB.frozen (k1 * 6 + 2)
          have fb3 := hB.frozen (k1 * 6 + 3)
          have fb4 := hB.frozen (k1 * 6 + 4)
          have fb5 := hB.frozen (k1 * 6 + 5)
          have HSW := Lib.hid (by
            have h1 := H2.out.2.1.swap k k1 x y hgx hgy H2.out.2.2 hbg hbs2
            have hls : (((P ++ V1) ++ x :: (y :: V3 ++ (R2 ++ Q))).set k y).set k1 x = P ++ (V1 ++ [y]) ++ x :: (V3 ++ (R2 ++ Q)) := by
              rw [hk1, ← hPV]
              have := swap_next2 (P ++ V1) (V3 ++ (R2 ++ Q)) x y
              simp only [List.cons_append]
              rw [this]; simp
            rw [hls] at h1
            have h2 : base ≤ ((wr.setCells g (k * 6) (eCMK y.1)).setCells g (k1 * 6) (eCMK x.1)).heap.size := Nat.le_trans hbs2 (grown_setCells (eCMK x.1) (k1 * 6) _ (grown_setCells (eCMK y.1) (k * 6) wr (grown_refl wr (some g)))).size
            exact And.intro h1 h2)
          have wk : IntKind.i64.wrap ((k : Int) + 1) = k1 := by rw [IntWalk.i64_in _ (by omega)]; omega
          have q2 : (k : Int) < n := by omega
          have q3 : (k1 : Int) < n := by omega
          have q4 : k ≠ k1 := by omega
          have HK := Lib.hid hk1
          clear hcx hcy hB hge hgx hgy hPV hk1
          go_wp2_with fail
          go_region
          all_goals
            go_wp2_with fail
            go_roundw
            case rel =>
              have HSV := HSW.out
              simp only [eCMK, World.setCells, Nat.add_assoc, Nat.reduceAdd] at HSV
              have hsz9 := HSV.2
              simp at hsz9
              refine ⟨k1, V1 ++ [y], V3, by go_num, by have := H2.out.1; simpa using this, by rw [List.length_append, List.length_singleton]; have := HK.out; omega, ?_, ?_, by simpa using hsz9⟩
              · first | exact HSV.1.1.drew | exact HSV.1.1
              · first | exact HSV.1.2.drew | exact HSV.1.2
            case measure => simp [intOf]; have := HK.out; omega
        · obtain rfl : V2 = [] := List.eq_nil_of_length_eq_zero (by omega)
          go_wp2_with fail
          go_end0
          refine ⟨rfl, R1 ++ x :: R2, HM.out.2, HM.out.1, ?_, H2.out.2.2⟩
          have h1 := H2.out.2.1
          have h2 := H2.out.1
          rw [List.append_nil] at h2
          rw [h2] at h1
          have e1 : P ++ R1 ++ x :: ([] ++ (R2 ++ Q)) = P ++ (R1 ++ x :: R2) ++ Q := by simp
          rw [e1] at h1
          exact h1
end Go.Proofs.YtlfeeiloijmagaaGreatDoor
