/- Several texts, joined for the limit of sixty files; each one opens with its own comment. -/
import Derived.Test.YtlogdionhgabdaaDoorJoin8
import Derived.Test.YtlogdionhgabdaaDoorJoin9
import Derived.Test.YtlogdionhgabdaaDoorJoin10
/- slices.SortStableFunc at rows of stat.pair[int]: one block by insertion. -/
set_option linter.unusedVariables false
set_option linter.unusedSimpArgs false
namespace Go.Proofs.YtlogdionhgabdaaDoor
open Go Go.RowKit
open Sw
abbrev eDPI := (Int × Int) × Nat
def RowDPI (w : World) (base : Nat) (v : Value) (n : Nat) (l : List eDPI) : Prop := l.length = n ∧ w.ownsRow base 61 2 v n ((l.map Prod.fst).flatMap eCPI)
theorem RowDPI.kept {w w' : World} {base n : Nat} {v : Value} {l : List eDPI} (h : RowDPI w base v n l) (hb : Below w.heap.size w w') : RowDPI w' base v n l := ⟨h.1, own_kept h.2 hb⟩
theorem RowDPI.drew {w : World} {base n : Nat} {v : Value} {l : List eDPI} (h : RowDPI w base v n l) : RowDPI w.drew base v n l := ⟨h.1, own_drew h.2⟩
theorem RowDPI.form {w : World} {base n c : Nat} {A : Option Addr} {l : List eDPI} (h : RowDPI w base (.slice A n c) n l) (hn : 0 < n) : ∃ g, A = some ⟨g, 0, none⟩ ∧ base ≤ g ∧ ∃ cur, Blk w g 61 cur ∧ g < w.heap.size := by
  obtain ⟨g, cap, cur, hA, hbg, hB, hnc, hcm, hcs, htk⟩ := own_form h.2 hn
  obtain ⟨rfl, rfl⟩ : A = some ⟨g, 0, none⟩ ∧ c = cap := by injection hA with e1 e2 e3; exact ⟨e1, e3⟩
  exact ⟨g, rfl, hbg, cur, hB, by
    unfold Blk at hB
    exact (Array.getElem?_eq_some_iff.1 hB).1⟩
theorem RowDPI.cell {w : World} {base n c g : Nat} {l : List eDPI} (h : RowDPI w base (.slice (some ⟨g, 0, none⟩) n c) n l) (m : Nat) (x : eDPI) (hm : l[m]? = some x) (q : Nat) (hq : q < 2) : w.cell? ⟨g, m * 2 + q, none⟩ = (eCPI x.1)[q]? := by
  obtain ⟨hml, hmx⟩ := List.getElem?_eq_some_iff.1 hm
  have hmn : m < n := by rw [← h.1]; exact hml
  obtain ⟨g', cap, cur, hA, hbg, hB, hnc, hcm, hcs, htk⟩ := own_form h.2 (by omega)
  obtain ⟨rfl, rfl⟩ : g = g' ∧ c = cap := by
    injection hA with e1 e2 e3
    exact ⟨congrArg Addr.block (Option.some.inj e1), e3⟩
  have h1 := flat_get eCPI_len (l.map Prod.fst) m (by rw [List.length_map]; exact hml) q hq
  have h2 : m * 2 + q < n * 2 := by have : (m + 1) * 2 ≤ n * 2 := Nat.mul_le_mul_right _ hmn; omega
  rw [hB.cell, ← Array.getElem?_toList]
  rw [List.getElem_map, hmx] at h1
  rw [← h1, ← htk, List.getElem?_take, if_pos h2]
theorem RowDPI.swap {w a : World} {base n c g : Nat} {l : List eDPI} (h : RowDPI w base (.slice (some ⟨g, 0, none⟩) n c) n l) (i j : Nat) (x y : eDPI) (hx : l[i]? = some x) (hy : l[j]? = some y) (hB : Below base a w) (hbg : base ≤ g) (hs : base ≤ w.heap.size) :
    RowDPI ((w.setCells g (i * 2) (eCPI y.1)).setCells g (j * 2) (eCPI x.1)) base (.slice (some ⟨g, 0, none⟩) n c) n ((l.set i y).set j x) ∧ Below base a ((w.setCells g (i * 2) (eCPI y.1)).setCells g (j * 2) (eCPI x.1)) := by
  obtain ⟨hil, hix⟩ := List.getElem?_eq_some_iff.1 hx
  obtain ⟨hjl, hjy⟩ := List.getElem?_eq_some_iff.1 hy
  have hin : i < n := by rw [← h.1]; exact hil
  have hjn : j < n := by rw [← h.1]; exact hjl
  have m1 : (i + 1) * 2 ≤ n * 2 := Nat.mul_le_mul_right _ hin
  have m2 : (j + 1) * 2 ≤ n * 2 := Nat.mul_le_mul_right _ hjn
  have h1 := own_setCells (eCPI y.1) (i * 2) w _ h.2 (by rw [eCPI_len]; omega)
  have f1 := flat_put eCPI_len (l.map Prod.fst) i (by rw [List.length_map]; exact hil) y.1 0 (eCPI y.1) (by rw [eCPI_len]; omega) (by simp [eCPI_len])
  simp only [Nat.add_zero] at f1
  rw [f1] at h1
  have h2 := own_setCells (eCPI x.1) (j * 2) _ _ h1 (by rw [eCPI_len]; omega)
  have f2 := flat_put eCPI_len ((l.map Prod.fst).set i y.1) j (by rw [List.length_set, List.length_map]; exact hjl) x.1 0 (eCPI x.1) (by rw [eCPI_len]; omega) (by simp [eCPI_len])
  simp only [Nat.add_zero] at f2
  rw [f2] at h2
  refine ⟨⟨by rw [List.length_set, List.length_set]; exact h.1, ?_⟩, ?_⟩
  · rw [List.map_set, List.map_set]; exact h2
  · exact own_below h.2 hB (grown_setCells (eCPI x.1) (j * 2) _ (grown_setCells (eCPI y.1) (i * 2) w (grown_refl _ _))) (Nat.le_refl _) hs
theorem swap_next {β : Type} (P Q : List β) (x y : β) : ((P ++ y :: x :: Q).set (P.length + 1) y).set P.length x = P ++ x :: y :: Q := by
  simp [List.set_append]
theorem mid_get {β : Type} (P Q : List β) (x : β) : (P ++ x :: Q)[P.length]? = some x := by simp
theorem mid_get1 {β : Type} (P Q : List β) (x y : β) : (P ++ y :: x :: Q)[P.length + 1]? = some x := by
  rw [List.getElem?_append_right (by omega)]; simp
set_option maxRecDepth 100000 in
set_option maxHeartbeats 8000000 in
theorem insertPI_any (cmp : Int × Int → Int × Int → Int) (HC : Cmp cmp) (hcall : ∀ W x y, Calls Tryd.prog 29 #[.agg (eCPI x).toArray, .agg (eCPI y).toArray] W fun e w' => e = .returned (.int .i64 (cmp x y)) ∧ Below W.heap.size W w')
    (w : World) (base : Nat) (A : Option Addr) (c : Nat) (n a b : Nat) (P X Q : List eDPI) (hn : n ≤ 1000000) (hP : P.length = a) (hX : a + X.length = b) (hrise : X.Pairwise fun p q => p.2 < q.2) (hbs : base ≤ w.heap.size)
    (hrow : RowDPI w base (.slice A n c) n (P ++ X ++ Q)) :
    Calls Tryd.prog 48 #[.slice A n c, .int .i64 a, .int .i64 b, .func (.func 29) #[] #[]] w fun e w' => e = .returned (.tuple #[]) ∧ ∃ Y : List eDPI, Y.Perm X ∧ UpS cmp Y ∧ RowDPI w' base (.slice A n c) n (P ++ Y ++ Q) ∧ Below base w w' := by
  have hlen : a + X.length + Q.length = n := by rw [← hrow.1, ← hP]; simp only [List.length_append]
  have HR0 := Lib.hid (And.intro hrow hrise)
  have HCC := Lib.hid hcall
  clear hrow hrise hcall
  have w0 : IntKind.i64.wrap ((a : Int) + 1) = a + 1 := IntWalk.i64_in _ (by omega)
  have hsz0 := hbs
  go_enter Tryd.func48, Tryd.ntmps48
  go_wp2_with fail
  go_loopw [8] (fun iv wr => ∃ (o : Nat) (S T : List eDPI), iv = .int .i64 o ∧ a + 1 ≤ o ∧ (S ++ T).Perm X ∧ UpS cmp S ∧ a + S.length = min o b ∧ (∀ p ∈ S, ∀ q ∈ T, p.2 < q.2) ∧ (T.Pairwise fun p q => p.2 < q.2) ∧ RowDPI wr base (.slice A n c) n (P ++ S ++ T ++ Q) ∧ Below base w wr ∧ base ≤ wr.heap.size) (fun iv _ => b - (intOf iv).toNat)
  case atStart =>
    refine ⟨a + 1, X.take 1, X.drop 1, by go_num, Nat.le_refl _, by rw [List.take_append_drop], ?_, ?_, ?_, ?_, ?_, Below.refl _ _, hbs⟩
    · rcases X with _ | ⟨x, X⟩
      · exact List.Pairwise.nil
      · exact List.pairwise_singleton _ _
    · rw [List.length_take]; omega
    · exact (List.pairwise_append.1 (by rw [List.take_append_drop]; exact HR0.out.2)).2.2
    · exact HR0.out.2.sublist (List.drop_sublist _ _)
    · have : P ++ X.take 1 ++ X.drop 1 ++ Q = P ++ X ++ Q := by rw [List.append_assoc P, List.take_append_drop]
      rw [this]; exact HR0.out.1
  case round =>
    obtain ⟨o, S, T, rfl, hao, hperm, hup, hSl, hcame, hTr, hrow, hbl, hbsr⟩ := hrel
    have hpl := hperm.length_eq
    rw [List.length_append] at hpl
    have HG := Lib.hid (And.intro hperm (And.intro hup (And.intro hcame (And.intro hTr (And.intro hrow hbl))))); clear hperm hup hcame hTr hrow hbl
    by_cases hob : o < b
    · have hob1 : (o : Int) < b := by omega
      obtain ⟨x, T', rfl⟩ : ∃ x T', T = x :: T' := by
        rcases T with _ | ⟨x, T'⟩
        · simp at hpl; omega
        · exact ⟨x, T', rfl⟩
      have w1 : IntKind.i64.wrap ((o : Int) + 1) = o + 1 := IntWalk.i64_in _ (by omega)
      go_wp2_with fail
      go_loopw [9] (fun jv wr2 => ∃ (i : Nat) (S1 S2 : List eDPI), jv = .int .i64 i ∧ S1 ++ S2 = S ∧ a + S1.length = i ∧ (∀ q ∈ S2, Ah cmp x q) ∧ RowDPI wr2 base (.slice A n c) n (P ++ S1 ++ x :: (S2 ++ T' ++ Q)) ∧ Below base w wr2 ∧ base ≤ wr2.heap.size) (fun jv _ => (intOf jv).toNat)
      case atStart =>
        refine ⟨o, S, [], rfl, List.append_nil _, by omega, (fun q hq => by cases hq), ?_, HG.out.2.2.2.2.2, hbsr⟩
        have : P ++ S ++ x :: ([] ++ T' ++ Q) = P ++ S ++ (x :: T') ++ Q := by simp
        rw [this]; exact HG.out.2.2.2.2.1
      case round =>
        obtain ⟨i, S1, S2, rfl, hSS, hSi, hAh, hrow, hbl, hbsr2⟩ := hrel
        have hS12 : S1.length + S2.length = S.length := by rw [← hSS, List.length_append]
        have H2 := Lib.hid (And.intro hSS (And.intro hAh (And.intro hrow hbl))); clear hSS hAh hrow hbl
        by_cases hia : a < i
        · have hia1 : (a : Int) < i := by omega
          obtain ⟨S0, y, hS0⟩ : ∃ S0 y, S1 = S0 ++ [y] := ⟨S1.dropLast, S1.getLast (by rintro rfl; simp at hSi; omega), (List.dropLast_concat_getLast _).symm⟩
          subst hS0
          rw [List.length_append] at hSi hS12
          simp only [List.length_cons, List.length_nil] at hSi hS12
          obtain ⟨j, hj⟩ : ∃ j : Nat, i = j + 1 := ⟨i - 1, by omega⟩
          have hjP : (P ++ S0).length = j := by rw [List.length_append]; omega
          have hform : P ++ (S0 ++ [y]) ++ x :: (S2 ++ T' ++ Q) = (P ++ S0) ++ y :: x :: (S2 ++ T' ++ Q) := by simp
          obtain ⟨g, rfl, hbg, cur, hB, hgs⟩ := H2.out.2.2.1.form (by omega)
          have hrowf := H2.out.2.2.1
          rw [hform] at hrowf
          have hgi : ((P ++ S0) ++ y :: x :: (S2 ++ T' ++ Q))[i]? = some x := by rw [hj, ← hjP]; exact mid_get1 _ _ _ _
          have hgj : ((P ++ S0) ++ y :: x :: (S2 ++ T' ++ Q))[j]? = some y := by rw [← hjP]; exact mid_get _ _ _
          obtain ⟨w2, hw2⟩ : ∃ w2, wr.drew = w2 := ⟨_, rfl⟩
          have hrow2 := hrowf.drew
          rw [hw2] at hrow2
          have hci := hrow2.cell i x hgi
          have hcj := hrow2.cell j y hgj
          have a0 : w2.cell? ⟨g, i * 2, none⟩ = _ := hci 0 (by omega)
          have a1 : w2.cell? ⟨g, i * 2 + 1, none⟩ = _ := hci 1 (by omega)
          simp only [eCPI, List.getElem?_cons_succ, List.getElem?_cons_zero] at a0 a1
          have b0 : w2.cell? ⟨g, j * 2, none⟩ = _ := hcj 0 (by omega)
          have b1 : w2.cell? ⟨g, j * 2 + 1, none⟩ = _ := hcj 1 (by omega)
          simp only [eCPI, List.getElem?_cons_succ, List.getElem?_cons_zero] at b0 b1
          clear hci hcj
          have HCL := Lib.hid (HCC.out w2 x.1 y.1)
          have HX := Lib.hid (And.intro hrow2 (And.intro hgi (And.intro hgj hform))); clear hrow2 hrowf hgi hgj hform
          have wj : IntKind.i64.wrap ((i : Int) - 1) = j := by rw [IntWalk.i64_in _ (by omega)]; omega
          have q1 : (i : Int) < n := by omega
          have q2 : (j : Int) < n := by omega
          have HJ := Lib.hid (And.intro hj hjP); clear hj hjP
          have hgd : decide ((a : Int) < i) = true := decide_eq_true hia1
          go_wp2_with fail
          refine region_tail 14 (by kernel_rfl) (by kernel_rfl) w2 hw2 ?_
          simp only [List.take_succ_cons, List.take_zero, List.drop_succ_cons, List.drop_zero]
          repeat (go_big_quiet_step (fail))
          refine wpQuiet_nil ?_
          go_wp2_with fail
          refine HCL.out.mono ?_
          rintro e w3 ⟨rfl, hb3⟩
          have hrow3 := HX.out.1.kept hb3
          have hbl3 : Below base w w3 := by
            have h1 : Below base w w2 := by rw [← hw2]; exact H2.out.2.2.2.drew
            exact h1.trans (hb3.mono (by rw [← hw2]; exact hbsr2))
          have hs3 : base ≤ w3.heap.size := Nat.le_trans hbsr2 (by have := hb3.size; rw [← hw2] at this; exact this)
          have H3 := Lib.hid (And.intro hrow3 (And.intro hbl3 hs3)); clear hb3 hbl3 hrow3 HCL
          by_cases hcx : cmp x.1 y.1 < 0
          · have hcd : decide (cmp x.1 y.1 < 0) = true := decide_eq_true hcx
            clear a0 b0 a1 b1
            go_wp2_with fail
            obtain ⟨g', hge, hbg3, cur3, hB, hgs3⟩ := H3.out.1.form (by omega)
            obtain rfl : g = g' := congrArg Addr.block (Option.some.inj hge)
            have hci := H3.out.1.cell i x HX.out.2.1
            have hcj := H3.out.1.cell j y HX.out.2.2.1
            have a0 : w3.cell? ⟨g, i * 2, none⟩ = _ := hci 0 (by omega)
            have a1 : w3.cell? ⟨g, i * 2 + 1, none⟩ = _ := hci 1 (by omega)
            simp only [eCPI, List.getElem?_cons_succ, List.getElem?_cons_zero] at a0 a1
            have b0 : w3.cell? ⟨g, j * 2, none⟩ = _ := hcj 0 (by omega)
            have b1 : w3.cell? ⟨g, j * 2 + 1, none⟩ = _ := hcj 1 (by omega)
            simp only [eCPI, List.getElem?_cons_succ, List.getElem?_cons_zero] at b0 b1
            have fa0 := hB.frozen (i * 2)
            have fa1 := hB.frozen (i * 2 + 1)
            have fb0 := hB.frozen (j * 2)
            have fb1 := hB.frozen (j * 2 + 1)
            have HSW := Lib.hid (H3.out.1.swap i j x y HX.out.2.1 HX.out.2.2.1 H3.out.2.1 hbg H3.out.2.2)
            clear hci hcj hB hge
            have q3 : i ≠ j := by have := HJ.out.1; omega
            have hszs : base ≤ ((w3.setCells g (i * 2) (eCPI y.1)).setCells g (j * 2) (eCPI x.1)).heap.size := by have := (grown_setCells (eCPI x.1) (j * 2) _ (grown_setCells (eCPI y.1) (i * 2) w3 (grown_refl w3 (some g)))).size; exact Nat.le_trans H3.out.2.2 this
            have HZ := Lib.hid hszs; clear hszs
            go_region
            all_goals
              go_wp2_with fail
              go_roundw
              case rel =>
                refine ⟨j, S0, y :: S2, by go_num, by have := H2.out.1; simpa using this, by have := HJ.out.1; omega, fun q hq => ?_, ?_, ?_, ?_⟩
                · rcases List.mem_cons.1 hq with rfl | hq
                  · exact .inl hcx
                  · exact H2.out.2.1 q hq
                · have h1 := HSW.out.1
                  have hls : (((P ++ S0) ++ y :: x :: (S2 ++ T' ++ Q)).set i y).set j x = P ++ S0 ++ x :: y :: (S2 ++ T' ++ Q) := by rw [HJ.out.1, ← HJ.out.2]; exact swap_next _ _ _ _
                  rw [hls] at h1
                  have e1 : P ++ S0 ++ x :: y :: (S2 ++ T' ++ Q) = P ++ S0 ++ x :: (y :: S2 ++ T' ++ Q) := rfl
                  rw [e1] at h1
                  first | exact h1 | exact h1.drew
                · first | exact HSW.out.2 | exact HSW.out.2.drew
                · exact HZ.out
              case measure => simp [intOf]; have := HJ.out.1; omega
          · have hcd : decide (cmp x.1 y.1 < 0) = false := decide_eq_false hcx
            have HIR := Lib.hid (ins_round H2.out.1 HG.out.1 HG.out.2.1 HG.out.2.2.1 HG.out.2.2.2.1 (UpS.lead HC (by have := HG.out.2.1; rw [← H2.out.1] at this; exact this.left) ((Ah.of_left HC (HG.out.2.2.1 y (by rw [← H2.out.1]; simp) x (List.mem_cons_self ..))).2 hcx)) H2.out.2.1)
            go_wp2_with fail
            go_roundw
            case rel =>
              refine ⟨o + 1, (S0 ++ [y]) ++ x :: S2, T', by go_num, by omega, HIR.out.1, HIR.out.2.1, ?_, HIR.out.2.2.1, HIR.out.2.2.2, ?_, H3.out.2.1, H3.out.2.2⟩
              · simp only [List.length_append, List.length_cons, List.length_nil]; omega
              · have h1 := H3.out.1
                rw [← HX.out.2.2.2] at h1
                have e1 : P ++ (S0 ++ [y]) ++ x :: (S2 ++ T' ++ Q) = P ++ ((S0 ++ [y]) ++ x :: S2) ++ T' ++ Q := by simp
                rw [e1] at h1
                exact h1
            case measure => simp [intOf]; omega
        · have hgd : decide ((a : Int) < i) = false := decide_eq_false (by omega)
          obtain rfl : S1 = [] := List.eq_nil_of_length_eq_zero (by omega)
          have HIR := Lib.hid (ins_round H2.out.1 HG.out.1 HG.out.2.1 HG.out.2.2.1 HG.out.2.2.2.1 (fun p hp => by cases hp) H2.out.2.1)
          go_wp2_with fail
          go_quiet (fail)
          go_wp2_with fail
          go_roundw
          case rel =>
            refine ⟨o + 1, [] ++ x :: S2, T', by go_num, by omega, HIR.out.1, HIR.out.2.1, ?_, HIR.out.2.2.1, HIR.out.2.2.2, ?_, below_drewN H2.out.2.2.2 _, hbsr2⟩
            · simp only [List.length_append, List.length_cons, List.length_nil]; simp only [List.length_nil] at hS12; omega
            · have h1 := H2.out.2.2.1
              have e1 : P ++ [] ++ x :: (S2 ++ T' ++ Q) = P ++ ([] ++ x :: S2) ++ T' ++ Q := by simp
              rw [e1] at h1
              exact h1.kept (below_drewN (Below.refl _ _) _)
          case measure => simp [intOf]; omega
    · obtain rfl : T = [] := by
        rcases T with _ | ⟨x, T'⟩
        · rfl
        · simp at hpl; omega
      go_wp2_with fail
      go_end0
      exact ⟨rfl, S, by have := HG.out.1; rwa [List.append_nil] at this, HG.out.2.1, by have := HG.out.2.2.2.2.1; rwa [List.append_nil] at this, HG.out.2.2.2.2.2⟩
end Go.Proofs.YtlogdionhgabdaaDoor
