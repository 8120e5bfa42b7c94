/- Several texts, joined for the limit of sixty files; each one opens with its own comment. -/
import Derived.Test.YteofiffbobbdmaaGreatDoorJoin29
import Derived.Test.YteofiffbobbdmaaGreatDoorJoin10
import Derived.Test.YteofiffbobbdmaaGreatDoorJoin16
import Derived.Test.YteofiffbobbdmaaGreatDoorJoin26
import Derived.Test.YteofiffbobbdmaaGreatDoorJoin17
import Derived.Test.YteofiffbobbdmaaGreatDoorJoin14
import Derived.Test.YteofiffbobbdmaaGreatDoorJoin5
import Derived.BigRegion
/- The reference's Right of nodes (at a node that is one). -/
set_option linter.unusedVariables false
set_option linter.unusedSimpArgs false
namespace Go.Proofs.YteofiffbobbdmaaGreatDoor
open Go Go.RowKit
open Sw
theorem refTime_any (w : World) (t : Int) (h0 : 0 ≤ t) (h1 : t < 4294967296) :
    Calls Tryz.prog 125 #[.int .u32 t] w fun e w' => e = .returned (.bool (decide (splitD t).Ok)) ∧ Below w.heap.size w w' := by
  have H1 := Lib.hid (refDosSplit_any w t h0 h1)
  have H2 := Lib.hid (fun W => refDosRight_any W (splitD t) (splitD_in t h0 h1))
  go_enter Tryz.func125, Tryz.ntmps125
  go_wp2_with fail
  refine H1.out.mono ?_
  rintro _ w1 ⟨rfl, hb1⟩
  have HB1 := Lib.hid hb1; clear hb1
  go_wp2_with fail
  refine (H2.out _).mono ?_
  rintro _ w2 ⟨rfl, hb2⟩
  have HB2 := Lib.hid (HB1.out.trans (hb2.mono HB1.out.size)); clear hb2
  go_wp2_with fail
  go_ret
  exact ⟨rfl, HB2.out⟩
set_option maxRecDepth 100000 in
set_option maxHeartbeats 4000000 in
theorem ref14Right_any (w : World) (n : Nd) (hk : ¬ n.kind = 0) (ht0 : 0 ≤ n.time) (ht1 : n.time < 4294967296) (hd : n.data.size ≤ maxLen) :
    Calls Tryz.prog 126 #[.agg n.c] w fun e w' => e = .returned (.int .i64 (nodeR n)) ∧ Below w.heap.size w w' := by
  obtain ⟨kd, md, tm, dt⟩ := n
  simp only at hk ht0 ht1 hd
  unfold maxLen at hd
  have hb0 := (Below.refl w.heap.size w).alloc (Nat.le_refl _) (.cells #[.int .i64 kd, .int .i64 md, .int .u32 tm, .string dt] 51)
  have hB0 := Blk.new w 51 #[.int .i64 kd, .int .i64 md, .int .u32 tm, .string dt]
  have H0 := Lib.hid (And.intro hb0 hB0); clear hb0 hB0
  have e0 : (kd == 0) = false := by rw [beq_eq_false_iff_ne]; exact hk
  unfold Nd.c
  have hR : nodeR ⟨kd, md, tm, dt⟩ = if ¬ kd = 1 ∧ ¬ kd = 2 then 8 else if kd = 2 ∧ (¬ dt.data.toList = [] ∨ ¬ tm = 0) then 1 else if ¬ (0 ≤ md ∧ md ≤ 511) then 12 else if kd = 1 ∧ ¬ (splitD tm).Ok then 13 else if (65000 : Int) < dt.size then 4 else 0 := by
    unfold nodeR
    simp [hk]
  rw [hR]
  clear hR
  by_cases h1 : kd = 1
  · subst h1
    rw [if_neg (by omega), if_neg (by omega)]
    have HD := Lib.hid (fun W => refTime_any W tm ht0 ht1)
    by_cases hm0 : 0 ≤ md
    · by_cases hm1 : md ≤ 511
      · rw [if_neg (fun h => h ⟨hm0, hm1⟩)]
        by_cases hk2 : (splitD tm).Ok
        · rw [decide_eq_true hk2] at HD
          rw [if_neg (fun h => h.2 hk2)]
          clear hk hk2
          by_cases hs : (65000 : Int) < dt.size
          all_goals
            first | rw [if_pos hs] | rw [if_neg hs]
            go_enter Tryz.func126, Tryz.ntmps126
            go_wp2_with fail
            refine (HD.out _).mono ?_
            rintro e w2 ⟨rfl, hb2⟩
            have x3 := (H0.out.2.below hb2 H0.out.2.lt).cell 3
            simp at x3
            have HF := Lib.hid (H0.out.1.trans (hb2.mono H0.out.1.size)); clear hb2
            go_wp2_with fail
            go_ret
            exact ⟨rfl, HF.out⟩
        · rw [decide_eq_false hk2] at HD
          rw [if_pos ⟨rfl, hk2⟩]
          clear hk hk2
          go_enter Tryz.func126, Tryz.ntmps126
          go_wp2_with fail
          refine (HD.out _).mono ?_
          rintro e w2 ⟨rfl, hb2⟩
          have HF := Lib.hid (H0.out.1.trans (hb2.mono H0.out.1.size)); clear hb2
          go_wp2_with fail
          go_ret
          exact ⟨rfl, HF.out⟩
      · rw [if_pos (fun h => hm1 h.2)]
        go_enter Tryz.func126, Tryz.ntmps126
        go_wp2_with fail
        go_ret
        exact ⟨rfl, H0.out.1⟩
    · rw [if_pos (fun h => hm0 h.1)]
      go_enter Tryz.func126, Tryz.ntmps126
      go_wp2_with fail
      go_ret
      exact ⟨rfl, H0.out.1⟩
  · have e1 : (kd == 1) = false := by rw [beq_eq_false_iff_ne]; exact h1
    by_cases h2 : kd = 2
    · subst h2
      rw [if_neg (by omega)]
      by_cases hx : dt.data.toList = []
      · by_cases hy : tm = 0
        · subst hy
          rw [if_neg (by rintro ⟨_, h⟩; rcases h with h | h <;> simp_all)]
          have hdz : dt = ⟨#[]⟩ := by cases dt with | mk d => cases d with | mk l => simp at hx; subst hx; rfl
          subst hdz
          clear hk h1 e1 hx
          by_cases hm0 : 0 ≤ md
          · by_cases hm1 : md ≤ 511
            · rw [if_neg (fun h => h ⟨hm0, hm1⟩)]
              rw [if_neg (by omega), if_neg (by decide)]
              go_enter Tryz.func126, Tryz.ntmps126
              go_wp2_with fail
              go_ret
              exact ⟨rfl, H0.out.1⟩
            · rw [if_pos (fun h => hm1 h.2)]
              go_enter Tryz.func126, Tryz.ntmps126
              go_wp2_with fail
              go_ret
              exact ⟨rfl, H0.out.1⟩
          · rw [if_pos (fun h => hm0 h.1)]
            go_enter Tryz.func126, Tryz.ntmps126
            go_wp2_with fail
            go_ret
            exact ⟨rfl, H0.out.1⟩
        · rw [if_pos ⟨rfl, .inr hy⟩]
          have hdz : dt = ⟨#[]⟩ := by cases dt with | mk d => cases d with | mk l => simp at hx; subst hx; rfl
          subst hdz
          have t0 : (tm == 0) = false := by rw [beq_eq_false_iff_ne]; exact hy
          have t1 : (tm != 0) = true := by rw [bne_iff_ne]; exact hy
          clear hk h1 e1 hx hy
          go_enter Tryz.func126, Tryz.ntmps126
          go_wp2_with fail
          go_ret
          exact ⟨rfl, H0.out.1⟩
      · rw [if_pos ⟨rfl, .inl hx⟩]
        have s0 : dt.data.toList.isEmpty = false := by cases hl : dt.data.toList with | nil => exact absurd hl hx | cons a l => rfl
        have s1 : (!dt.data.toList.isEmpty) = true := by rw [s0]; rfl
        have s2 : (dt.data.toList == []) = false := by rw [beq_eq_false_iff_ne]; exact hx
        have s3 : dt.toList.isEmpty = false := by rw [ByteArray.toList_eq]; exact s0
        clear hk h1 e1 hx
        go_enter Tryz.func126, Tryz.ntmps126
        go_wp2_with fail
        go_ret
        exact ⟨rfl, H0.out.1⟩
    · rw [if_pos ⟨h1, h2⟩]
      have e2 : (kd == 2) = false := by rw [beq_eq_false_iff_ne]; exact h2
      by_cases hn : kd < 0
      · clear hk h1 h2 e0 e1 e2
        go_enter Tryz.func126, Tryz.ntmps126
        go_wp2_with fail
        go_ret
        exact ⟨rfl, H0.out.1⟩
      · have hn2 : (2 : Int) < kd := by omega
        clear hk h1 h2 e0 e1 e2
        go_enter Tryz.func126, Tryz.ntmps126
        go_wp2_with fail
        go_ret
        exact ⟨rfl, H0.out.1⟩
end Go.Proofs.YteofiffbobbdmaaGreatDoor
/- The reference's Fine, of a print: it answers. -/
set_option linter.unusedVariables false
set_option linter.unusedSimpArgs false
namespace Go.Proofs.YteofiffbobbdmaaGreatDoor
open Go Go.RowKit
open Sw
set_option maxRecDepth 100000 in
set_option maxHeartbeats 4000000 in
theorem refFine_any (w : World) (p : Pr) (ht0 : 0 ≤ p.time) (ht1 : p.time < 4294967296) :
    Calls Tryz.prog 95 #[.agg p.c] w fun e w' => ∃ R : Bool, e = .returned (.bool R) ∧ Below w.heap.size w w' := by
  obtain ⟨kd, md, tm, sz, sm⟩ := p
  simp only at ht0 ht1
  have hb0 := (Below.refl w.heap.size w).alloc (Nat.le_refl _) (.cells #[.int .i64 kd, .int .i64 md, .int .u32 tm, .int .i64 sz, .int .u32 sm] 75)
  have hB0 := Blk.new w 75 #[.int .i64 kd, .int .i64 md, .int .u32 tm, .int .i64 sz, .int .u32 sm]
  have HB := Lib.hid (And.intro hb0 hB0); clear hb0 hB0
  have HT := Lib.hid (fun W => refTime_any W tm ht0 ht1)
  clear ht0 ht1
  generalize decide (splitD tm).Ok = ok at HT
  unfold Pr.c
  by_cases a1 : kd < 0
  · go_enter Tryz.func95, Tryz.ntmps95
    go_wp2_with fail
    go_ret
    first | exact HB.out.1 | exact ⟨.inl rfl, HB.out.1⟩ | exact ⟨.inr rfl, HB.out.1⟩ | exact ⟨_, rfl, HB.out.1⟩
  by_cases a2 : 2 < kd
  · go_enter Tryz.func95, Tryz.ntmps95
    go_wp2_with fail
    go_ret
    first | exact HB.out.1 | exact ⟨.inl rfl, HB.out.1⟩ | exact ⟨.inr rfl, HB.out.1⟩ | exact ⟨_, rfl, HB.out.1⟩
  by_cases a3 : md < 0
  · go_enter Tryz.func95, Tryz.ntmps95
    go_wp2_with fail
    go_ret
    first | exact HB.out.1 | exact ⟨.inl rfl, HB.out.1⟩ | exact ⟨.inr rfl, HB.out.1⟩ | exact ⟨_, rfl, HB.out.1⟩
  by_cases a4 : 511 < md
  · go_enter Tryz.func95, Tryz.ntmps95
    go_wp2_with fail
    go_ret
    first | exact HB.out.1 | exact ⟨.inl rfl, HB.out.1⟩ | exact ⟨.inr rfl, HB.out.1⟩ | exact ⟨_, rfl, HB.out.1⟩
  by_cases a5 : sz < 0
  · go_enter Tryz.func95, Tryz.ntmps95
    go_wp2_with fail
    go_ret
    first | exact HB.out.1 | exact ⟨.inl rfl, HB.out.1⟩ | exact ⟨.inr rfl, HB.out.1⟩ | exact ⟨_, rfl, HB.out.1⟩
  by_cases a6 : 65000 < sz
  · go_enter Tryz.func95, Tryz.ntmps95
    go_wp2_with fail
    go_ret
    first | exact HB.out.1 | exact ⟨.inl rfl, HB.out.1⟩ | exact ⟨.inr rfl, HB.out.1⟩ | exact ⟨_, rfl, HB.out.1⟩
  by_cases k1 : kd = 1
  · subst k1
    cases ok with
    | false =>
      go_enter Tryz.func95, Tryz.ntmps95
      go_wp2_with fail
      refine (HT.out _).mono ?_
      rintro e w1 ⟨rfl, hb1⟩
      have H1 := Lib.hid (HB.out.1.trans (hb1.mono HB.out.1.size)); clear hb1
      go_wp2_with fail
      go_ret
      first | exact H1.out | exact ⟨.inl rfl, H1.out⟩ | exact ⟨.inr rfl, H1.out⟩ | exact ⟨_, rfl, H1.out⟩
    | true =>
      by_cases z : sz = 0
      · subst z
        go_enter Tryz.func95, Tryz.ntmps95
        go_wp2_with fail
        refine (HT.out _).mono ?_
        rintro e w1 ⟨rfl, hb1⟩
        have x3 := (HB.out.2.below hb1 HB.out.2.lt).cell 3
        have x4 := (HB.out.2.below hb1 HB.out.2.lt).cell 4
        simp at x3 x4
        have H1 := Lib.hid (HB.out.1.trans (hb1.mono HB.out.1.size)); clear hb1
        go_wp2_with fail
        go_ret
        first | exact H1.out | exact ⟨.inl rfl, H1.out⟩ | exact ⟨.inr rfl, H1.out⟩ | exact ⟨_, rfl, H1.out⟩
      · have ez : (sz == 0) = false := by rw [beq_eq_false_iff_ne]; exact z
        go_enter Tryz.func95, Tryz.ntmps95
        go_wp2_with fail
        refine (HT.out _).mono ?_
        rintro e w1 ⟨rfl, hb1⟩
        have x3 := (HB.out.2.below hb1 HB.out.2.lt).cell 3
        have x4 := (HB.out.2.below hb1 HB.out.2.lt).cell 4
        simp at x3 x4
        have H1 := Lib.hid (HB.out.1.trans (hb1.mono HB.out.1.size)); clear hb1
        go_wp2_with fail
        go_ret
        first | exact H1.out | exact ⟨.inl rfl, H1.out⟩ | exact ⟨.inr rfl, H1.out⟩ | exact ⟨_, rfl, H1.out⟩
  · have e1 : (kd == 1) = false := by rw [beq_eq_false_iff_ne]; exact k1
    obtain ⟨q1, hq1⟩ : ∃ q, (tm == 0) = q := ⟨_, rfl⟩
    obtain ⟨q2, hq2⟩ : ∃ q, (sz == 0) = q := ⟨_, rfl⟩
    obtain ⟨q3, hq3⟩ : ∃ q, (sm == 0) = q := ⟨_, rfl⟩
    obtain ⟨q4, hq4⟩ : ∃ q, (kd == 2) = q := ⟨_, rfl⟩
    obtain ⟨q5, hq5⟩ : ∃ q, (md == 0) = q := ⟨_, rfl⟩
    cases q1
    · go_enter Tryz.func95, Tryz.ntmps95
      go_wp2_with fail
      go_ret
      first | exact HB.out.1 | exact ⟨.inl rfl, HB.out.1⟩ | exact ⟨.inr rfl, HB.out.1⟩ | exact ⟨_, rfl, HB.out.1⟩
    cases q2
    · go_enter Tryz.func95, Tryz.ntmps95
      go_wp2_with fail
      go_ret
      first | exact HB.out.1 | exact ⟨.inl rfl, HB.out.1⟩ | exact ⟨.inr rfl, HB.out.1⟩ | exact ⟨_, rfl, HB.out.1⟩
    cases q3
    · go_enter Tryz.func95, Tryz.ntmps95
      go_wp2_with fail
      go_ret
      first | exact HB.out.1 | exact ⟨.inl rfl, HB.out.1⟩ | exact ⟨.inr rfl, HB.out.1⟩ | exact ⟨_, rfl, HB.out.1⟩
    cases q4 <;> cases q5
    all_goals
      go_enter Tryz.func95, Tryz.ntmps95
      go_wp2_with fail
      go_ret
      first | exact HB.out.1 | exact ⟨.inl rfl, HB.out.1⟩ | exact ⟨.inr rfl, HB.out.1⟩ | exact ⟨_, rfl, HB.out.1⟩
end Go.Proofs.YteofiffbobbdmaaGreatDoor
/- The reference's Get of marks. -/
set_option linter.unusedVariables false
set_option linter.unusedSimpArgs false
namespace Go.Proofs.YteofiffbobbdmaaGreatDoor
open Go Go.RowKit
open Sw
set_option maxRecDepth 100000 in
set_option maxHeartbeats 8000000 in
theorem refGet26_any (w : World) (u : Value) (L : List MkE) (p : ByteArray) (h : SlV w 6 eCM u L) (hn : L.length ≤ 200000) :
    Calls Tryz.prog 58 #[u, .string p] w fun e w' => e = .returned (.tuple #[.agg ((findM L p).getD ⟨0, 0, 0, 0, 0⟩).c, .bool (findM L p).isSome]) ∧ Below w.heap.size w w' := by
  have HS := Lib.hid h
  obtain ⟨A, c, rfl, _, _, _⟩ := h
  obtain ⟨n, hn2⟩ : ∃ n, L.length = n := ⟨_, rfl⟩
  rw [hn2] at HS hn ⊢
  have HL := Lib.hid hn2; clear hn2
  obtain ⟨W0, hW0⟩ : ∃ W0, w.alloc (.cells #[.int .i64 0, .int .i64 0, .int .u32 0, .int .i64 0, .int .u32 0] 75) = W0 := ⟨_, rfl⟩
  have hb0 : Below w.heap.size w W0 := by rw [← hW0]; exact (Below.refl _ w).alloc (Nat.le_refl _) _
  have hR0 : Blk W0 w.heap.size 75 #[.int .i64 0, .int .i64 0, .int .u32 0, .int .i64 0, .int .u32 0] := by rw [← hW0]; exact Blk.new _ _ _
  have HW0 := Lib.hid (And.intro hW0 (And.intro hb0 hR0)); clear hW0 hb0 hR0
  go_enter Tryz.func58, Tryz.ntmps58
  go_wp2_with fail
  rw [HW0.out.1]
  go_loopw [10] (fun iv wr => ∃ i : Nat, i ≤ n ∧ iv = .int .i64 i ∧ (∀ j (hj : j < L.length), j < i → ¬ L[j].1 = p) ∧ Below w.heap.size w wr ∧ Blk wr w.heap.size 75 #[.int .i64 0, .int .i64 0, .int .u32 0, .int .i64 0, .int .u32 0]) (fun iv _ => n - (intOf iv).toNat)
  case atStart => exact ⟨0, Nat.zero_le _, rfl, fun j _ h => absurd h (Nat.not_lt_zero _), HW0.out.2.1, HW0.out.2.2⟩
  case round =>
    obtain ⟨i, hi, rfl, hall, hb, hR⟩ := hrel
    have HA := Lib.hid hall; clear hall
    have hslr := HS.out.below hb (Nat.le_refl _)
    by_cases hlt : i < n
    · have hiL : i < L.length := by have := HL.out; omega
      obtain ⟨A', c', hA, _, _, hso⟩ := hslr
      obtain ⟨rfl, rfl⟩ : A = A' ∧ c = c' := by injection hA with e1 e2 e3; exact ⟨e1, e3⟩
      clear hA
      obtain ⟨b, off, rfl, hbb, hcs⟩ := hso (by omega)
      have c0 := hcs i hiL 0 (by omega)
      have c1 := hcs i hiL 1 (by omega)
      have c2 := hcs i hiL 2 (by omega)
      have c3' := hcs i hiL 3 (by omega)
      have c4 := hcs i hiL 4 (by omega)
      have c5 := hcs i hiL 5 (by omega)
      simp only [eCM, List.getElem?_cons_succ, List.getElem?_cons_zero, Nat.add_zero] at c0 c1 c2 c3' c4 c5
      clear hcs hso
      have hi1 : (i : Int) < n := by omega
      have hF := findM_at L p i hiL HA.out
      have HN := Lib.hid (fun (hne : ¬ L[i].1 = p) => (fun j (hj : j < L.length) (hji : j < i + 1) => (by
        by_cases h : j < i
        · exact HA.out j hj h
        · obtain rfl : j = i := by omega
          exact hne : ¬ L[j].1 = p)))
      obtain ⟨⟨q, ⟨kd, md, tm, sz, sm⟩⟩, hx⟩ : ∃ x, L[i] = x := ⟨_, rfl⟩
      simp only [hx] at c0 c1 c2 c3' c4 c5 hF HN
      clear hx
      have hba := (Below.refl wr.heap.size wr).alloc (Nat.le_refl _) (.cells #[.string q, .int .i64 kd, .int .i64 md, .int .u32 tm, .int .i64 sz, .int .u32 sm] 91)
      have HBW := Lib.hid (And.intro (hb.trans (hba.mono hb.size)) (hR.below hba hR.lt)); clear hba hb hR
      have x0 := HBW.out.2.cell 0
      have x1 := HBW.out.2.cell 1
      have x2 := HBW.out.2.cell 2
      have x3 := HBW.out.2.cell 3
      have x4 := HBW.out.2.cell 4
      simp at x0 x1 x2 x3 x4
      have f0 := HBW.out.2.frozen 0
      have f1 := HBW.out.2.frozen 1
      have f2 := HBW.out.2.frozen 2
      have f3 := HBW.out.2.frozen 3
      have f4 := HBW.out.2.frozen 4
      by_cases hk : q = p
      · have hF2 := Lib.hid (hF hk)
        have te : (q.toList == p.toList) = true := by rw [str_beq]; simpa using hk
        clear hk hF HN
        go_wp2_with fail
        refine bodyPost_ret (res_blk_tmp rfl _ _ (w.heap.size) 75 #[.int .i64 kd, .int .i64 md, .int .u32 tm, .int .i64 sz, .int .u32 sm] _ rfl (((((HBW.out.2.put 0 (.int .i64 kd)).put 1 (.int .i64 md)).put 2 (.int .u32 tm)).put 3 (.int .i64 sz)).put 4 (.int .u32 sm)) Tryz.underlying75 rfl (by kernel_rfl)) rfl ⟨by rw [hF2.out]; rfl, ?_⟩
        exact ((((HBW.out.1.setCell (p := ⟨w.heap.size, 0, none⟩) (Nat.le_refl _) (.int .i64 kd)).setCell (p := ⟨w.heap.size, 1, none⟩) (Nat.le_refl _) (.int .i64 md)).setCell (p := ⟨w.heap.size, 2, none⟩) (Nat.le_refl _) (.int .u32 tm)).setCell (p := ⟨w.heap.size, 3, none⟩) (Nat.le_refl _) (.int .i64 sz)).setCell (p := ⟨w.heap.size, 4, none⟩) (Nat.le_refl _) (.int .u32 sm)
      · have HN2 := Lib.hid (HN.out hk)
        have te : (q.toList == p.toList) = false := by rw [str_beq]; simpa using hk
        clear hk hF HN
        go_wp2_with fail
        go_roundw
        case rel => exact ⟨i + 1, by omega, by go_num, HN2.out, HBW.out.1, HBW.out.2⟩
        case measure => simp [intOf]; omega
    · obtain rfl : i = n := by omega
      have hF2 := Lib.hid (findM_none (L := L) (p := p) (fun m hm => by
        obtain ⟨j, hj, rfl⟩ := List.getElem_of_mem hm
        exact HA.out j hj (by have := HL.out; omega)))
      have HBW := Lib.hid (And.intro hb hR); clear hb hR hslr
      have x0 := HBW.out.2.cell 0
      have x1 := HBW.out.2.cell 1
      have x2 := HBW.out.2.cell 2
      have x3 := HBW.out.2.cell 3
      have x4 := HBW.out.2.cell 4
      simp at x0 x1 x2 x3 x4
      have f0 := HBW.out.2.frozen 0
      have f1 := HBW.out.2.frozen 1
      have f2 := HBW.out.2.frozen 2
      have f3 := HBW.out.2.frozen 3
      have f4 := HBW.out.2.frozen 4
      go_wp2_with fail
      refine bodyPost_ret (res_blk_tmp rfl _ _ (w.heap.size) 75 #[.int .i64 0, .int .i64 0, .int .u32 0, .int .i64 0, .int .u32 0] _ rfl (((((HBW.out.2.put 0 (.int .i64 0)).put 1 (.int .i64 0)).put 2 (.int .u32 0)).put 3 (.int .i64 0)).put 4 (.int .u32 0)) Tryz.underlying75 rfl (by kernel_rfl)) rfl ⟨by rw [hF2.out]; rfl, ?_⟩
      exact ((((HBW.out.1.setCell (p := ⟨w.heap.size, 0, none⟩) (Nat.le_refl _) (.int .i64 0)).setCell (p := ⟨w.heap.size, 1, none⟩) (Nat.le_refl _) (.int .i64 0)).setCell (p := ⟨w.heap.size, 2, none⟩) (Nat.le_refl _) (.int .u32 0)).setCell (p := ⟨w.heap.size, 3, none⟩) (Nat.le_refl _) (.int .i64 0)).setCell (p := ⟨w.heap.size, 4, none⟩) (Nat.le_refl _) (.int .u32 0)
end Go.Proofs.YteofiffbobbdmaaGreatDoor
/- The reference's rises of marks: it answers. -/
set_option linter.unusedVariables false
set_option linter.unusedSimpArgs false
namespace Go.Proofs.YteofiffbobbdmaaGreatDoor
open Go Go.RowKit
open Sw
/-- a mark that came in -/
def MkInS (m : MkE) : Prop := m.1.size ≤ 90000 ∧ 0 ≤ m.2.time ∧ m.2.time < 4294967296
set_option maxRecDepth 100000 in
set_option maxHeartbeats 8000000 in
theorem rises26_any (w : World) (u : Value) (L : List MkE) (h : SlV w 6 eCM u L) (hn : L.length ≤ 100) (hin : ∀ m ∈ L, MkInS m) :
    Calls Tryz.prog 59 #[u] w fun e w' => (∃ R : Bool, e = .returned (.bool R)) ∧ Below w.heap.size w w' := by
  have HS := Lib.hid (And.intro h hin); clear hin
  obtain ⟨A, c, rfl, _, _, _⟩ := h
  obtain ⟨n, hn2⟩ : ∃ n, L.length = n := ⟨_, rfl⟩
  rw [hn2] at HS hn ⊢
  have HL := Lib.hid hn2; clear hn2
  go_enter Tryz.func59, Tryz.ntmps59
  go_wp2_with fail
  go_loopw [7] (fun iv wr => ∃ i : Nat, i ≤ n ∧ iv = .int .i64 i ∧ Below w.heap.size w wr) (fun iv _ => n - (intOf iv).toNat)
  case atStart => exact ⟨0, Nat.zero_le _, rfl, Below.refl _ _⟩
  case round =>
    obtain ⟨i, hi, rfl, hb⟩ := hrel
    have hslr := HS.out.1.below hb (Nat.le_refl _)
    by_cases hlt : i < n
    · have hiL : i < L.length := by have := HL.out; omega
      obtain ⟨A', c', hA, _, _, hso⟩ := hslr
      obtain ⟨rfl, rfl⟩ : A = A' ∧ c = c' := by injection hA with e1 e2 e3; exact ⟨e1, e3⟩
      clear hA
      obtain ⟨b, off, rfl, hbb, hcs⟩ := hso (by omega)
      have c0 := hcs i hiL 0 (by omega)
      have c1 := hcs i hiL 1 (by omega)
      have c2 := hcs i hiL 2 (by omega)
      have c3' := hcs i hiL 3 (by omega)
      have c4 := hcs i hiL 4 (by omega)
      have c5 := hcs i hiL 5 (by omega)
      simp only [eCM, List.getElem?_cons_succ, List.getElem?_cons_zero, Nat.add_zero] at c0 c1 c2 c3' c4 c5
      have HCS := Lib.hid (And.intro hbb hcs)
      clear hcs hso hbb
      have hi1 : (i : Int) < n := by omega
      have hmi := HS.out.2 _ (List.getElem_mem hiL)
      obtain ⟨⟨q, ⟨kd, md, tm, sz, sm⟩⟩, hx⟩ : ∃ x, L[i] = x := ⟨_, rfl⟩
      simp only [hx] at c0 c1 c2 c3' c4 c5 hmi
      clear hx
      obtain ⟨W0, hW0⟩ : ∃ W0, wr.alloc (.cells #[.string q, .int .i64 kd, .int .i64 md, .int .u32 tm, .int .i64 sz, .int .u32 sm] 91) = W0 := ⟨_, rfl⟩
      have hba : Below wr.heap.size wr W0 := by rw [← hW0]; exact (Below.refl _ _).alloc (Nat.le_refl _) _
      have hB0 : Blk W0 wr.heap.size 91 #[.string q, .int .i64 kd, .int .i64 md, .int .u32 tm, .int .i64 sz, .int .u32 sm] := by rw [← hW0]; exact Blk.new _ _ _
      have H0 := Lib.hid (And.intro hW0 (And.intro hba (And.intro hb hB0)))
      have x0 := hB0.cell 0
      simp at x0
      obtain ⟨hq0, ht0, ht1⟩ := hmi
      simp only at hq0 ht0 ht1
      have HRR := Lib.hid (refRight_any W0 q (by omega))
      have HFI := Lib.hid (fun W => refFine_any W ⟨kd, md, tm, sz, sm⟩ ht0 ht1)
      have HQ := Lib.hid hq0
      unfold Pr.c at HFI
      clear hW0 hba hb hB0 hq0 ht0 ht1
      generalize rightL q.data.toList = R at HRR
      go_upto_region 4 with fail
      rw [H0.out.1]
      obtain ⟨G, hG⟩ : ∃ G, wr.heap.size = G := ⟨_, rfl⟩
      simp only [hG] at x0 ⊢
      have HG := Lib.hid hG; clear hG
      clear c0 c1 c2 c3' c4 c5
      go_wp2_with fail
      refine HRR.out.mono ?_
      rintro e w1 ⟨rfl, hb1⟩
      have hbw0 := H0.out.2.2.1.trans (H0.out.2.1.mono H0.out.2.2.1.size)
      have H1 := Lib.hid (And.intro (hbw0.trans (hb1.mono hbw0.size)) (And.intro (H0.out.2.1.trans (hb1.mono H0.out.2.1.size)) (H0.out.2.2.2.below hb1 H0.out.2.2.2.lt)))
      clear hb1 hbw0 x0 HRR
      rw [HG.out] at H1
      have x1 := H1.out.2.2.cell 1
      have x2 := H1.out.2.2.cell 2
      have x3 := H1.out.2.2.cell 3
      have x4 := H1.out.2.2.cell 4
      have x5 := H1.out.2.2.cell 5
      simp at x1 x2 x3 x4 x5
      cases R with
      | false =>
        go_wp2_with fail
        go_ret
        exact ⟨⟨_, rfl⟩, H1.out.1⟩
      | true =>
        go_wp2_with fail
        refine (HFI.out _).mono ?_
        rintro e w2 ⟨R2, rfl, hb2⟩
        have H2 := Lib.hid (And.intro (H1.out.1.trans (hb2.mono H1.out.1.size)) (And.intro (H1.out.2.1.trans (hb2.mono (by have := H1.out.2.1.size; rw [HG.out] at this; exact this))) (H1.out.2.2.below hb2 H1.out.2.2.lt)))
        clear hb2 x1 x2 x3 x4 x5 HFI
        have x0 := H2.out.2.2.cell 0
        have x1 := H2.out.2.2.cell 1
        simp at x0 x1
        cases R2 with
        | false =>
          go_wp2_with fail
          go_ret
          exact ⟨⟨_, rfl⟩, H2.out.1⟩
        | true =>
          by_cases hk : kd = 0
          · subst hk
            go_wp2_with fail
            go_ret
            exact ⟨⟨_, rfl⟩, H2.out.1⟩
          · have ek : (kd == 0) = false := by rw [beq_eq_false_iff_ne]; exact hk
            clear hk
            have hgl := H2.out.2.2.lt
            haveI := Aft.some w2
            by_cases hi0 : i = 0
            · subst hi0
              have k0 : ∀ m : Held (Aft w2), (HeldW m).cell? ⟨G, 0, none⟩ = some (.string q) := fun m => (Aft.cell m hgl).trans x0
              clear x0 hgl
              go_upto_region 6 with fail
              refine wp_region_class (Aft w2) (by kernel_rfl) (by kernel_rfl) (Aft.start w2) ?_
              repeat (go_big_quiet_step (fail))
              refine wpQuiet_nil ?_
              rintro _ ⟨nn, rfl⟩
              have HW := Lib.hid (H2.out.1.trans ((HeldW_spec nn : Below w2.heap.size w2 (HeldW nn)).mono H2.out.1.size))
              clear k0 x1
              go_wp2_with fail
              go_roundw
              case rel => exact ⟨1, by omega, by go_num, HW.out⟩
              case measure => simp [intOf]; omega
            · obtain ⟨j, rfl⟩ : ∃ j, i = j + 1 := ⟨i - 1, by omega⟩
              have hjL : j < L.length := by omega
              have c0 := HCS.out.2 j hjL 0 (by omega)
              have hmj := (HS.out.2 _ (List.getElem_mem hjL)).1
              obtain ⟨⟨q', pr'⟩, hx⟩ : ∃ x, L[j] = x := ⟨_, rfl⟩
              simp only [hx] at c0 hmj
              simp only [eCM, List.getElem?_cons_succ, List.getElem?_cons_zero, Nat.add_zero] at c0
              clear hx
              have hbl : b < w2.heap.size := by have := HCS.out.1; have := H2.out.2.1.size; omega
              have c02 : w2.cell? ⟨b, off + j * 6, none⟩ = some (.string q') := (H2.out.2.1.cell (by show b < G; rw [← HG.out]; exact HCS.out.1)).trans c0
              have k0 : ∀ m : Held (Aft w2), (HeldW m).cell? ⟨G, 0, none⟩ = some (.string q) := fun m => (Aft.cell m hgl).trans x0
              have k1 : ∀ m : Held (Aft w2), (HeldW m).cell? ⟨b, off + j * 6, none⟩ = some (.string q') := fun m => (Aft.cell m hbl).trans c02
              have HBF := Lib.hid (fun m : Held (Aft w2) => refBefore_any (HeldW m) q' q (by omega) (by have := HQ.out; omega))
              have hwj : IntKind.i64.wrap ((j : Int) + 1 - 1) = j := by rw [show (j : Int) + 1 - 1 = j by omega]; exact IntWalk.i64_in _ (by omega)
              have hj0 : (j : Int) < n := by omega
              generalize decide (ordS q' q = -1) = B at HBF
              clear x0 hgl c0 c02 hbl hmj
              go_upto_region 6 with fail
              refine wp_region_class (Aft w2) (by kernel_rfl) (by kernel_rfl) (Aft.start w2) ?_
              repeat (go_big_quiet_step (with_reducible exact held_below Aft.keep (HBF.out _)))
              refine wpQuiet_nil ?_
              rintro _ ⟨nn, rfl⟩
              have HW := Lib.hid (H2.out.1.trans ((HeldW_spec nn : Below w2.heap.size w2 (HeldW nn)).mono H2.out.1.size))
              clear k0 k1 x1
              cases B with
              | false =>
                go_wp2_with fail
                go_ret
                exact ⟨⟨_, rfl⟩, HW.out⟩
              | true =>
                go_wp2_with fail
                go_roundw
                case rel => exact ⟨j + 1 + 1, by omega, by go_num, HW.out⟩
                case measure => simp [intOf]; omega
    · obtain rfl : i = n := by omega
      have HB := Lib.hid hb; clear hb hslr
      go_wp2_with fail
      go_ret
      exact ⟨⟨_, rfl⟩, HB.out⟩
end Go.Proofs.YteofiffbobbdmaaGreatDoor
/- The reference's Right of a Base: it answers. -/
set_option linter.unusedVariables false
set_option linter.unusedSimpArgs false
namespace Go.Proofs.YteofiffbobbdmaaGreatDoor
open Go Go.RowKit
open Sw
set_option maxRecDepth 100000 in
set_option maxHeartbeats 8000000 in
theorem right26_any (w : World) (u1 u2 : Value) (l1 l2 : List MkE) (h1 : SlV w 6 eCM u1 l1) (h2 : SlV w 6 eCM u2 l2) (hn1 : l1.length ≤ 100) (hn2 : l2.length ≤ 100) (hin1 : ∀ m ∈ l1, MkInS m) (hin2 : ∀ m ∈ l2, MkInS m) :
    Calls Tryz.prog 27 #[.agg #[u1, u2]] w fun e w' => (∃ R : Bool, e = .returned (.bool R)) ∧ Below w.heap.size w w' := by
  obtain ⟨W, hW⟩ : ∃ W, w.alloc (.cells #[u1, u2] 24) = W := ⟨_, rfl⟩
  have hb0 : Below w.heap.size w W := by rw [← hW]; exact (Below.refl _ w).alloc (Nat.le_refl _) _
  have hB0 : Blk W w.heap.size 24 #[u1, u2] := by rw [← hW]; exact Blk.new w _ _
  have HS := Lib.hid (And.intro h1 (And.intro h2 (And.intro hin1 hin2))); clear hin1 hin2
  obtain ⟨A1, c1, rfl, _, _, _⟩ := h1
  obtain ⟨A, c, rfl, _, _, _⟩ := h2
  obtain ⟨n, hn⟩ : ∃ n, l2.length = n := ⟨_, rfl⟩
  rw [hn] at HS hn2 hB0 hW ⊢
  have HL := Lib.hid hn; clear hn
  obtain ⟨k1, hk1⟩ : ∃ n, l1.length = n := ⟨_, rfl⟩
  rw [hk1] at HS hn1 hB0 hW ⊢
  have HL1 := Lib.hid hk1; clear hk1
  have x0 := hB0.cell 0
  have x1 := hB0.cell 1
  simp at x0 x1
  obtain ⟨g, hg⟩ : ∃ g, w.heap.size = g := ⟨_, rfl⟩
  rw [hg] at hB0 x0 x1
  have HW := Lib.hid (And.intro hW (And.intro hb0 (And.intro hB0 hg))); clear hW hb0 hB0
  go_enter Tryz.func27, Tryz.ntmps27
  go_upto_region 1 with fail
  rw [HW.out.1]
  try rw [hg]
  clear hg
  go_wp2_with fail
  clear x0 x1
  go_loopw [10] (fun iv wr => ∃ i : Nat, i ≤ n ∧ iv = .int .i64 i ∧ Below w.heap.size w wr ∧ Below W.heap.size W wr) (fun iv _ => n - (intOf iv).toNat)
  case atStart => exact ⟨0, Nat.zero_le _, rfl, HW.out.2.1, Below.refl _ _⟩
  case round =>
    obtain ⟨i, hi, rfl, hb, hbW⟩ := hrel
    have hBr := HW.out.2.2.1.below hbW HW.out.2.2.1.lt
    have hsl1 := HS.out.1.below hb (Nat.le_refl _)
    have hslr := HS.out.2.1.below hb (Nat.le_refl _)
    by_cases hlt : i < n
    · have hiL : i < l2.length := by have := HL.out; omega
      obtain ⟨A', c', hA, _, _, hso⟩ := hslr
      obtain ⟨rfl, rfl⟩ : A = A' ∧ c = c' := by injection hA with e1 e2 e3; exact ⟨e1, e3⟩
      clear hA
      obtain ⟨b, off, rfl, hbb, hcs⟩ := hso (by omega)
      have c0 := hcs i hiL 0 (by omega)
      have c1 := hcs i hiL 1 (by omega)
      have c2 := hcs i hiL 2 (by omega)
      have c3' := hcs i hiL 3 (by omega)
      have c4 := hcs i hiL 4 (by omega)
      have c5 := hcs i hiL 5 (by omega)
      simp only [eCM, List.getElem?_cons_succ, List.getElem?_cons_zero, Nat.add_zero] at c0 c1 c2 c3' c4 c5
      clear hcs hso hbb
      have hi1 : (i : Int) < n := by omega
      obtain ⟨⟨q, ⟨kd, md, tm, sz, sm⟩⟩, hx⟩ : ∃ x, l2[i] = x := ⟨_, rfl⟩
      simp only [hx] at c0 c1 c2 c3' c4 c5
      clear hx
      have hba := (Below.refl wr.heap.size wr).alloc (Nat.le_refl _) (.cells #[.string q, .int .i64 kd, .int .i64 md, .int .u32 tm, .int .i64 sz, .int .u32 sm] 91)
      have hBa := hBr.below hba hBr.lt
      have x0 := hBa.cell 0
      simp at x0
      have HG := Lib.hid (refGet26_any _ _ l1 q (hsl1.below hba (Nat.le_refl _)) (by have := HL1.out; omega))
      have H1 := Lib.hid (And.intro (hb.trans (hba.mono hb.size)) (hbW.trans (hba.mono hbW.size))); clear hb hbW hba hBr hBa hsl1
      generalize (findM l1 q).getD ⟨0, 0, 0, 0, 0⟩ = pp at HG
      generalize (findM l1 q).isSome = bb at HG
      obtain ⟨pk, pm, pt, ps, pu⟩ := pp
      simp only [Pr.c] at HG
      go_wp2_with fail
      refine HG.out.mono ?_
      rintro e w1 ⟨rfl, hb1⟩
      have hba2 := (Below.refl w1.heap.size w1).alloc (Nat.le_refl _) (.cells #[.int .i64 pk, .int .i64 pm, .int .u32 pt, .int .i64 ps, .int .u32 pu] 75)
      have hb2 := H1.out.1.trans (hb1.mono H1.out.1.size)
      have hb3 := H1.out.2.trans (hb1.mono H1.out.2.size)
      have H2 := Lib.hid (And.intro (hb2.trans (hba2.mono hb2.size)) (hb3.trans (hba2.mono hb3.size))); clear hb1 hba2 hb2 hb3 H1 HG
      clear x0 c0 c1 c2 c3' c4 c5
      cases bb with
      | true =>
        go_wp2_with fail
        go_ret
        exact ⟨⟨_, rfl⟩, H2.out.1⟩
      | false =>
        go_wp2_with fail
        go_roundw
        case rel => exact ⟨i + 1, by omega, by go_num, H2.out.1, H2.out.2⟩
        case measure => simp [intOf]; omega
    · obtain rfl : i = n := by omega
      have x0 := hBr.cell 0
      simp at x0
      have HR := Lib.hid (rises26_any wr _ l1 hsl1 (by have := HL1.out; omega) HS.out.2.2.1)
      have HB := Lib.hid (And.intro hb (And.intro hslr hBr)); clear hb hbW hslr hsl1 hBr
      go_wp2_with fail
      refine HR.out.mono ?_
      rintro e w1 ⟨⟨R, rfl⟩, hb1⟩
      have hB1 := HB.out.2.2.below hb1 HB.out.2.2.lt
      have x1 := hB1.cell 1
      simp at x1
      have hbw := HB.out.1.trans (hb1.mono HB.out.1.size)
      have HR2 := Lib.hid (rises26_any w1 _ l2 (HB.out.2.1.below hb1 (Nat.le_refl _)) (by have := HL.out; omega) HS.out.2.2.2)
      have H1 := Lib.hid hbw
      clear hbw hb1 hB1 x0 HR
      cases R with
      | false =>
        go_wp2_with fail
        go_ret
        exact ⟨⟨_, rfl⟩, H1.out⟩
      | true =>
        go_wp2_with fail
        refine HR2.out.mono ?_
        rintro e w2 ⟨⟨R2, rfl⟩, hb2⟩
        have H2 := Lib.hid (H1.out.trans (hb2.mono H1.out.size)); clear hb2
        go_wp2_with fail
        go_ret
        exact ⟨⟨_, rfl⟩, H2.out⟩
end Go.Proofs.YteofiffbobbdmaaGreatDoor
