/- Several texts, joined for the limit of sixty files; each one opens with its own comment. -/
import Derived.Test.YtnpehjgnplaabaaGreatDoorJoin20
import Derived.Test.YtnpehjgnplaabaaGreatDoorJoin18
import Derived.Test.YtnpehjgnplaabaaGreatDoorJoin29
import Derived.Test.YtnpehjgnplaabaaGreatDoorJoin12
import Derived.Test.YtnpehjgnplaabaaGreatDoorJoin11
import Derived.Test.YtnpehjgnplaabaaGreatDoorJoin26
import Derived.Test.YtnpehjgnplaabaaGreatDoorJoin25
import Derived.RangeFuncRecord
/- Several texts, joined for the limit of sixty files; each one opens with its own comment. -/
/- Contracts of recon.Decide and of the reference's. -/
set_option linter.unusedVariables false
set_option linter.unusedSimpArgs false
namespace Go.Proofs.YtnpehjgnplaabaaGreatDoor
open Go.RowKit
open Sw
/-- a print, whether there is one, and two nodes, in their boxes -/
def Boxes4 (w : World) (was : Pr) (had : Bool) (a b : Nd) (W : World) : Prop :=
  Blk W w.heap.size 61 was.c ∧ Blk W (w.heap.size + 1) 4 #[.bool had] ∧ Blk W (w.heap.size + 1 + 1) 57 a.c ∧ Blk W (w.heap.size + 1 + 1 + 1) 57 b.c ∧ Below w.heap.size w W
theorem Boxes4.keep {w : World} {was : Pr} {had : Bool} {a b : Nd} {W W' : World} (h : Boxes4 w was had a b W) (hb : Below W.heap.size W W') : Boxes4 w was had a b W' :=
  ⟨h.1.below hb h.1.lt, h.2.1.below hb h.2.1.lt, h.2.2.1.below hb h.2.2.1.lt, h.2.2.2.1.below hb h.2.2.2.1.lt, h.2.2.2.2.trans (hb.mono h.2.2.2.2.size)⟩
theorem Boxes4.new (w : World) (was : Pr) (had : Bool) (a b : Nd) : Boxes4 w was had a b ((((w.alloc (.cells was.c 61)).alloc (.cells #[.bool had] 4)).alloc (.cells a.c 57)).alloc (.cells b.c 57)) :=
  ⟨(blk_fst _ _ _ _).alloc _ |>.alloc _, (blk_mid _ _ _ _ _).alloc _, (blk_trd _ _ _ _ _).alloc _, by
    have h := blk_trd (w.alloc (.cells was.c 61)) (.cells #[.bool had] 4) (.cells a.c 57) b.c 57
    rw [World.size_alloc] at h
    exact h, (((((Below.refl _ _).alloc (Nat.le_refl _) _).alloc (by simp) _).alloc (by simp; omega) _).alloc (by simp; omega) _)⟩
set_option maxRecDepth 100000 in
set_option maxHeartbeats 4000000 in
theorem decide_any (w : World) (was : Pr) (had : Bool) (a b : Nd) (ha : a.data.size ≤ maxLen) (hb : b.data.size ≤ maxLen) :
    Calls Tryz.prog 93 #[.agg was.c, .bool had, .agg a.c, .agg b.c] w fun e w' => e = .returned (.tuple #[.int .i64 (decideN was had a b).1, .int .i64 (decideN was had a b).2]) ∧ Below w.heap.size w w' := by
  have hSA := fun W => nodeSame_any W a b ha hb
  have hT1 := fun W (h : Boxes4 w was had a b W) => still_any W w.heap.size (w.heap.size + 1) was had a ha h.1 h.2.1
  have hT2 := fun W (h : Boxes4 w was had a b W) => still_any W w.heap.size (w.heap.size + 1) was had b hb h.1 h.2.1
  have hCL := fun W => class_any W a b
  have hB0 := Boxes4.new w was had a b
  have hdec : decideN was had a b = if decide (printN a = printN b) = true then (0, 0) else if decide (stateN was had a = 0) = true then (1, 0) else if decide (stateN was had b = 0) = true then (2, 0) else (3, classN a b) := by
    unfold decideN; simp only [decide_eq_true_eq]
  rw [hdec]
  clear hdec
  generalize decide (printN a = printN b) = r1 at *
  generalize decide (stateN was had a = 0) = r2 at *
  generalize decide (stateN was had b = 0) = r3 at *
  generalize classN a b = cl at *
  have HB0 := Lib.hid hB0; clear hB0
  have HSA := Lib.hid hSA; clear hSA
  have HT1 := Lib.hid hT1; clear hT1
  have HT2 := Lib.hid hT2; clear hT2
  have HCL := Lib.hid hCL; clear hCL
  unfold Pr.c Nd.c at *
  cases r1 with
  | true =>
    rw [if_pos rfl]
    go_enter Tryz.func93, Tryz.ntmps93
    go_wp2_with fail
    refine (HSA.out _).mono ?_
    rintro e w1 ⟨rfl, hb1⟩
    have HK1 := Lib.hid (HB0.out.keep hb1)
    go_wp2_with fail
    go_ret2
    exact ⟨rfl, HK1.out.2.2.2.2⟩
  | false =>
    rw [if_neg (by simp)]
    cases r2 with
    | true =>
      rw [if_pos rfl]
      go_enter Tryz.func93, Tryz.ntmps93
      go_wp2_with fail
      refine (HSA.out _).mono ?_
      rintro e w1 ⟨rfl, hb1⟩
      have HK1 := Lib.hid (HB0.out.keep hb1)
      have a0 := HK1.out.2.2.1.cell 0
      have a1 := HK1.out.2.2.1.cell 1
      have a2 := HK1.out.2.2.1.cell 2
      have a3 := HK1.out.2.2.1.cell 3
      have b0 := HK1.out.2.2.2.1.cell 0
      have b1 := HK1.out.2.2.2.1.cell 1
      have b2 := HK1.out.2.2.2.1.cell 2
      have b3 := HK1.out.2.2.2.1.cell 3
      unfold Nd.c at a0 a1 a2 a3 b0 b1 b2 b3
      simp at a0 a1 a2 a3 b0 b1 b2 b3
      go_wp2_with fail
      refine (HT1.out _ HK1.out).mono ?_
      rintro e w2 ⟨rfl, hb2⟩
      have HK2 := Lib.hid (HK1.out.keep hb2)
      go_wp2_with fail
      go_ret2
      exact ⟨rfl, HK2.out.2.2.2.2⟩
    | false =>
      rw [if_neg (by simp)]
      cases r3 with
      | true =>
        rw [if_pos rfl]
        go_enter Tryz.func93, Tryz.ntmps93
        go_wp2_with fail
        refine (HSA.out _).mono ?_
        rintro e w1 ⟨rfl, hb1⟩
        have HK1 := Lib.hid (HB0.out.keep hb1)
        have a0 := HK1.out.2.2.1.cell 0
        have a1 := HK1.out.2.2.1.cell 1
        have a2 := HK1.out.2.2.1.cell 2
        have a3 := HK1.out.2.2.1.cell 3
        have b0 := HK1.out.2.2.2.1.cell 0
        have b1 := HK1.out.2.2.2.1.cell 1
        have b2 := HK1.out.2.2.2.1.cell 2
        have b3 := HK1.out.2.2.2.1.cell 3
        unfold Nd.c at a0 a1 a2 a3 b0 b1 b2 b3
        simp at a0 a1 a2 a3 b0 b1 b2 b3
        go_wp2_with fail
        refine (HT1.out _ HK1.out).mono ?_
        rintro e w2 ⟨rfl, hb2⟩
        have HK2 := Lib.hid (HK1.out.keep hb2)
        clear a0 a1 a2 a3 b0 b1 b2 b3
        have a0 := HK2.out.2.2.1.cell 0
        have a1 := HK2.out.2.2.1.cell 1
        have a2 := HK2.out.2.2.1.cell 2
        have a3 := HK2.out.2.2.1.cell 3
        have b0 := HK2.out.2.2.2.1.cell 0
        have b1 := HK2.out.2.2.2.1.cell 1
        have b2 := HK2.out.2.2.2.1.cell 2
        have b3 := HK2.out.2.2.2.1.cell 3
        unfold Nd.c at a0 a1 a2 a3 b0 b1 b2 b3
        simp at a0 a1 a2 a3 b0 b1 b2 b3
        go_wp2_with fail
        refine (HT2.out _ HK2.out).mono ?_
        rintro e w3 ⟨rfl, hb3⟩
        have HK3 := Lib.hid (HK2.out.keep hb3)
        clear a0 a1 a2 a3 b0 b1 b2 b3
        go_wp2_with fail
        go_ret2
        exact ⟨rfl, HK3.out.2.2.2.2⟩
      | false =>
        rw [if_neg (by simp)]
        go_enter Tryz.func93, Tryz.ntmps93
        go_wp2_with fail
        refine (HSA.out _).mono ?_
        rintro e w1 ⟨rfl, hb1⟩
        have HK1 := Lib.hid (HB0.out.keep hb1)
        have a0 := HK1.out.2.2.1.cell 0
        have a1 := HK1.out.2.2.1.cell 1
        have a2 := HK1.out.2.2.1.cell 2
        have a3 := HK1.out.2.2.1.cell 3
        have b0 := HK1.out.2.2.2.1.cell 0
        have b1 := HK1.out.2.2.2.1.cell 1
        have b2 := HK1.out.2.2.2.1.cell 2
        have b3 := HK1.out.2.2.2.1.cell 3
        unfold Nd.c at a0 a1 a2 a3 b0 b1 b2 b3
        simp at a0 a1 a2 a3 b0 b1 b2 b3
        go_wp2_with fail
        refine (HT1.out _ HK1.out).mono ?_
        rintro e w2 ⟨rfl, hb2⟩
        have HK2 := Lib.hid (HK1.out.keep hb2)
        clear a0 a1 a2 a3 b0 b1 b2 b3
        have a0 := HK2.out.2.2.1.cell 0
        have a1 := HK2.out.2.2.1.cell 1
        have a2 := HK2.out.2.2.1.cell 2
        have a3 := HK2.out.2.2.1.cell 3
        have b0 := HK2.out.2.2.2.1.cell 0
        have b1 := HK2.out.2.2.2.1.cell 1
        have b2 := HK2.out.2.2.2.1.cell 2
        have b3 := HK2.out.2.2.2.1.cell 3
        unfold Nd.c at a0 a1 a2 a3 b0 b1 b2 b3
        simp at a0 a1 a2 a3 b0 b1 b2 b3
        go_wp2_with fail
        refine (HT2.out _ HK2.out).mono ?_
        rintro e w3 ⟨rfl, hb3⟩
        have HK3 := Lib.hid (HK2.out.keep hb3)
        clear a0 a1 a2 a3 b0 b1 b2 b3
        have a0 := HK3.out.2.2.1.cell 0
        have a1 := HK3.out.2.2.1.cell 1
        have a2 := HK3.out.2.2.1.cell 2
        have a3 := HK3.out.2.2.1.cell 3
        have b0 := HK3.out.2.2.2.1.cell 0
        have b1 := HK3.out.2.2.2.1.cell 1
        have b2 := HK3.out.2.2.2.1.cell 2
        have b3 := HK3.out.2.2.2.1.cell 3
        unfold Nd.c at a0 a1 a2 a3 b0 b1 b2 b3
        simp at a0 a1 a2 a3 b0 b1 b2 b3
        go_wp2_with fail
        refine (HCL.out _).mono ?_
        rintro e w4 ⟨rfl, hb4⟩
        go_wp2_with fail
        go_ret2
        exact ⟨rfl, (HK3.out.keep hb4).2.2.2.2⟩
/-- a print and two nodes, in their boxes -/
def Boxes3 (w : World) (was : Pr) (a b : Nd) (W : World) : Prop :=
  Blk W w.heap.size 61 was.c ∧ Blk W (w.heap.size + 1) 57 a.c ∧ Blk W (w.heap.size + 1 + 1) 57 b.c ∧ Below w.heap.size w W
theorem Boxes3.keep {w : World} {was : Pr} {a b : Nd} (W W' : World) (h : Boxes3 w was a b W) (hb : Below W.heap.size W W') : Boxes3 w was a b W' :=
  ⟨h.1.below hb h.1.lt, h.2.1.below hb h.2.1.lt, h.2.2.1.below hb h.2.2.1.lt, h.2.2.2.trans (hb.mono h.2.2.2.size)⟩
theorem Boxes3.new (w : World) (was : Pr) (a b : Nd) : Boxes3 w was a b (((w.alloc (.cells was.c 61)).alloc (.cells a.c 57)).alloc (.cells b.c 57)) :=
  ⟨(blk_fst _ _ _ _).alloc _, blk_mid _ _ _ _ _, blk_trd _ _ _ _ _, ((((Below.refl _ _).alloc (Nat.le_refl _) _).alloc (by simp) _).alloc (by simp; omega) _)⟩
end Go.Proofs.YtnpehjgnplaabaaGreatDoor
/- archive.Find. -/
set_option linter.unusedVariables false
set_option linter.unusedSimpArgs false
namespace Sw
open Go
theorem toList_inj {x y : ByteArray} (h : x.toList = y.toList) : x = y := by
  rw [ByteArray.toList_eq, ByteArray.toList_eq] at h
  apply ByteArray.ext
  exact Array.ext' h
theorem str_beq (u v : ByteArray) : (u.toList == v.toList) = decide (u = v) := by
  by_cases h : u = v
  · subst h; simp
  · have : ¬ u.toList = v.toList := fun e => h (toList_inj e)
    simp [h, this]
theorem findM_at : ∀ (L : List MkE) (p : ByteArray) (i : Nat) (h : i < L.length), (∀ j (hj : j < L.length), j < i → ¬ L[j].1 = p) → L[i].1 = p → findM L p = some L[i].2
  | [], p, i, h, _, _ => absurd h (by simp)
  | m :: L, p, 0, h, _, he => by rw [findM_cons, if_pos (by simpa using he)]; rfl
  | m :: L, p, i + 1, h, hn, he => by
    have h0 := hn 0 (by simp) (by omega)
    rw [findM_cons, if_neg (by simpa using h0)]
    have := findM_at L p i (by simpa using h) (fun j hj hji => by have := hn (j + 1) (by simpa using hj) (by omega); simpa using this) (by simpa using he)
    rw [this]
    simp
end Sw
namespace Go.Proofs.YtnpehjgnplaabaaGreatDoor
open Go Go.RowKit
open Sw
set_option maxRecDepth 100000 in
set_option maxHeartbeats 8000000 in
theorem findM_any (w : World) (u1 u2 : Value) (l1 l2 : List MkE) (p : ByteArray) (h1 : SlV w 6 eCM u1 l1) (h2 : SlV w 6 eCM u2 l2) (hl1 : l1.length ≤ 100000) (hl2 : l2.length ≤ 100000) :
    Calls Tryz.prog 64 #[.agg #[u1, u2], .string p] w fun e w' => e = .returned (.tuple #[.agg ((findM (l1 ++ l2) p).getD ⟨0, 0, 0, 0, 0⟩).c, .bool (findM (l1 ++ l2) p).isSome]) ∧ Below w.heap.size w w' := by
  obtain ⟨W0, hW0⟩ : ∃ W0, ((w.alloc (.cells #[u1, u2] 24)).alloc (.cells #[.int .i64 0, .int .i64 0, .int .u32 0, .int .i64 0, .int .u32 0] 61)).alloc (.cells #[u1, u2] 22) = W0 := ⟨_, rfl⟩
  have hb2 : Below w.heap.size w W0 := by rw [← hW0]; exact (((Below.refl _ w).alloc (Nat.le_refl _) _).alloc (by simp) _).alloc (by simp; omega) _
  have hR0 : Blk W0 (w.heap.size + 1) 61 #[.int .i64 0, .int .i64 0, .int .u32 0, .int .i64 0, .int .u32 0] := by rw [← hW0]; exact (blk_snd _ _ _ _).alloc _
  have hC0 : Blk W0 (w.heap.size + 1 + 1) 22 #[u1, u2] := by rw [← hW0]; exact blk_trd _ _ _ _ _
  have HC := Lib.hid (concatM_any W0 (w.heap.size + 1 + 1) _ u1 u2 l1 l2 hC0 (h1.below hb2 (Nat.le_refl _)) (h2.below hb2 (Nat.le_refl _)) hl1 hl2)
  have HB := Lib.hid (And.intro hb2 hR0)
  have HW0 := Lib.hid hW0
  have hn : (l1 ++ l2).length ≤ 200000 := by rw [List.length_append]; omega
  obtain ⟨A1, k1, rfl, _, _, _⟩ := h1
  obtain ⟨A2, k2, rfl, _, _, _⟩ := h2
  clear hb2 hR0 hC0 hW0 hl1 hl2
  generalize l1.length = n1 at *
  generalize l2.length = n2 at *
  generalize l1 ++ l2 = L at *
  obtain ⟨n, hn2⟩ : ∃ n, L.length = n := ⟨_, rfl⟩
  rw [hn2] at HC hn
  have HL := Lib.hid hn2; clear hn2
  go_enter Tryz.func64, Tryz.ntmps64
  go_wp2_with fail
  rw [HW0.out]
  refine HC.out.mono ?_
  rintro e w3 ⟨u, rfl, ho3, hb3⟩
  obtain ⟨A3, k3, rfl, _, _, _⟩ := SlV_of_any ho3
  have hsl3 := SlV.of_own ho3 eCM_len (by decide)
  have H3 := Lib.hid (And.intro hsl3 (And.intro (HB.out.1.trans (hb3.mono HB.out.1.size)) (HB.out.2.below hb3 HB.out.2.lt))); clear hb3 ho3 hsl3 HC HB
  go_wp2_with fail
  go_loopw [15] (fun iv wr => ∃ i : Nat, i ≤ n ∧ iv = .int .i64 i ∧ (∀ j (hj : j < L.length), j < i → ¬ L[j].1 = p) ∧ Below w.heap.size w wr ∧ Below w3.heap.size w3 wr) (fun iv _ => n - (intOf iv).toNat)
  case atStart => exact ⟨0, Nat.zero_le _, rfl, fun j _ h => absurd h (Nat.not_lt_zero _), H3.out.2.1, Below.refl _ _⟩
  case round =>
    obtain ⟨i, hi, rfl, hall, hb, hb3⟩ := hrel
    have HA := Lib.hid hall; clear hall
    have hR := H3.out.2.2.below hb3 H3.out.2.2.lt
    have hslr := H3.out.1.below hb3 (Nat.le_refl _)
    by_cases hlt : i < n
    · have hiL : i < L.length := by have := HL.out; omega
      obtain ⟨A', c', hA, _, _, hso⟩ := hslr
      obtain ⟨rfl, rfl⟩ : A3 = A' ∧ k3 = c' := by injection hA with e1 e2 e3; exact ⟨e1, e3⟩
      clear hA
      obtain ⟨b, off, rfl, hbb, hcs⟩ := hso (by omega)
      have c0 := hcs i hiL 0 (by omega)
      have c1 := hcs i hiL 1 (by omega)
      have c2 := hcs i hiL 2 (by omega)
      have c3' := hcs i hiL 3 (by omega)
      have c4 := hcs i hiL 4 (by omega)
      have c5 := hcs i hiL 5 (by omega)
      simp only [eCM, List.getElem?_cons_succ, List.getElem?_cons_zero, Nat.add_zero] at c0 c1 c2 c3' c4 c5
      clear hcs hso
      have hi1 : (i : Int) < n := by omega
      have hF := findM_at L p i hiL HA.out
      have HN := Lib.hid (fun (hne : ¬ L[i].1 = p) => (fun j (hj : j < L.length) (hji : j < i + 1) => (by
        by_cases h : j < i
        · exact HA.out j hj h
        · obtain rfl : j = i := by omega
          exact hne : ¬ L[j].1 = p)))
      obtain ⟨⟨q, ⟨kd, md, tm, sz, sm⟩⟩, hx⟩ : ∃ x, L[i] = x := ⟨_, rfl⟩
      simp only [hx] at c0 c1 c2 c3' c4 c5 hF HN
      clear hx
      have hba := (Below.refl wr.heap.size wr).alloc (Nat.le_refl _) (.cells #[.string q, .int .i64 kd, .int .i64 md, .int .u32 tm, .int .i64 sz, .int .u32 sm] 63)
      have HBW := Lib.hid (And.intro (hb.trans (hba.mono hb.size)) (And.intro (hb3.trans (hba.mono hb3.size)) (hR.below hba hR.lt))); clear hba hb hb3 hR
      have x0 := HBW.out.2.2.cell 0
      have x1 := HBW.out.2.2.cell 1
      have x2 := HBW.out.2.2.cell 2
      have x3 := HBW.out.2.2.cell 3
      have x4 := HBW.out.2.2.cell 4
      simp at x0 x1 x2 x3 x4
      have f0 := HBW.out.2.2.frozen 0
      have f1 := HBW.out.2.2.frozen 1
      have f2 := HBW.out.2.2.frozen 2
      have f3 := HBW.out.2.2.frozen 3
      have f4 := HBW.out.2.2.frozen 4
      by_cases hk : q = p
      · have hF2 := Lib.hid (hF hk)
        have te : (q.toList == p.toList) = true := by rw [str_beq]; simpa using hk
        clear hk hF HN
        go_wp2_with fail
        refine bodyPost_ret (res_blk_tmp rfl _ _ (w.heap.size + 1) 61 #[.int .i64 kd, .int .i64 md, .int .u32 tm, .int .i64 sz, .int .u32 sm] _ rfl (((((HBW.out.2.2.put 0 (.int .i64 kd)).put 1 (.int .i64 md)).put 2 (.int .u32 tm)).put 3 (.int .i64 sz)).put 4 (.int .u32 sm)) Tryz.underlying61 rfl (by kernel_rfl)) rfl ⟨by rw [hF2.out]; rfl, ?_⟩
        exact ((((HBW.out.1.setCell (p := ⟨w.heap.size + 1, 0, none⟩) (Nat.le_succ _) (.int .i64 kd)).setCell (p := ⟨w.heap.size + 1, 1, none⟩) (Nat.le_succ _) (.int .i64 md)).setCell (p := ⟨w.heap.size + 1, 2, none⟩) (Nat.le_succ _) (.int .u32 tm)).setCell (p := ⟨w.heap.size + 1, 3, none⟩) (Nat.le_succ _) (.int .i64 sz)).setCell (p := ⟨w.heap.size + 1, 4, none⟩) (Nat.le_succ _) (.int .u32 sm)
      · have HN2 := Lib.hid (HN.out hk)
        have te : (q.toList == p.toList) = false := by rw [str_beq]; simpa using hk
        clear hk hF HN
        go_wp2_with fail
        go_roundw
        case rel => exact ⟨i + 1, by omega, by go_num, HN2.out, HBW.out.1, HBW.out.2.1⟩
        case measure => simp [intOf]; omega
    · obtain rfl : i = n := by omega
      have hF2 := Lib.hid (findM_none (L := L) (p := p) (fun m hm => by
        obtain ⟨j, hj, rfl⟩ := List.getElem_of_mem hm
        exact HA.out j hj (by have := HL.out; omega)))
      have HBW := Lib.hid (And.intro hb hR); clear hb hb3 hR hslr
      have x0 := HBW.out.2.cell 0
      have x1 := HBW.out.2.cell 1
      have x2 := HBW.out.2.cell 2
      have x3 := HBW.out.2.cell 3
      have x4 := HBW.out.2.cell 4
      simp at x0 x1 x2 x3 x4
      have f0 := HBW.out.2.frozen 0
      have f1 := HBW.out.2.frozen 1
      have f2 := HBW.out.2.frozen 2
      have f3 := HBW.out.2.frozen 3
      have f4 := HBW.out.2.frozen 4
      go_wp2_with fail
      refine bodyPost_ret (res_blk_tmp rfl _ _ (w.heap.size + 1) 61 #[.int .i64 0, .int .i64 0, .int .u32 0, .int .i64 0, .int .u32 0] _ rfl (((((HBW.out.2.put 0 (.int .i64 0)).put 1 (.int .i64 0)).put 2 (.int .u32 0)).put 3 (.int .i64 0)).put 4 (.int .u32 0)) Tryz.underlying61 rfl (by kernel_rfl)) rfl ⟨by rw [hF2.out]; rfl, ?_⟩
      exact ((((HBW.out.1.setCell (p := ⟨w.heap.size + 1, 0, none⟩) (Nat.le_succ _) (.int .i64 0)).setCell (p := ⟨w.heap.size + 1, 1, none⟩) (Nat.le_succ _) (.int .i64 0)).setCell (p := ⟨w.heap.size + 1, 2, none⟩) (Nat.le_succ _) (.int .u32 0)).setCell (p := ⟨w.heap.size + 1, 3, none⟩) (Nat.le_succ _) (.int .i64 0)).setCell (p := ⟨w.heap.size + 1, 4, none⟩) (Nat.le_succ _) (.int .u32 0)
end Go.Proofs.YtnpehjgnplaabaaGreatDoor
/- detect.of, All. -/
set_option linter.unusedVariables false
set_option linter.unusedSimpArgs false
namespace Sw
open Go
theorem getT_size {xs : List NE} {p : ByteArray} {n : Nat} (hu : Up ordS xs) (h : ∀ e ∈ xs, e.2.data.size ≤ n) : (getT xs p).data.size ≤ n := by
  rcases Classical.em (∃ e ∈ xs, e.1 = p) with ⟨e, he, rfl⟩ | hn
  · rw [getT_in hu he]; exact h e he
  · rw [getT_out hu (fun e he h => hn ⟨e, he, h⟩)]; exact Nat.zero_le _
end Sw
namespace Go.Proofs.YtnpehjgnplaabaaGreatDoor
open Go Go.RowKit
open Sw
end Go.Proofs.YtnpehjgnplaabaaGreatDoor
/- What an iterator asks of its caller: all below a place, and all cells but those of some types, lie as they lay. Over any program. -/
set_option linter.unusedVariables false
set_option linter.unusedSimpArgs false
namespace Sw
open Go Go.RowKit
/-- all below B0, and all cells that are of none of the types ts, lie as they lay -/
structure KeepR (B0 : Nat) (ts : List TypeId) (A B : World) : Prop where
  low : Below B0 A B
  row : ∀ g t cs, Blk A g t cs → ¬ t ∈ ts → Blk B g t cs
theorem KeepR.trans {B0 : Nat} {ts : List TypeId} {A B C : World} (h : KeepR B0 ts A B) (k : KeepR B0 ts B C) : KeepR B0 ts A C := ⟨h.low.trans k.low, fun g t cs hg ht => k.row g t cs (h.row g t cs hg ht) ht⟩
theorem KeepR.refl (B0 : Nat) (ts : List TypeId) (A : World) : KeepR B0 ts A A := ⟨Below.refl _ _, fun _ _ _ h _ => h⟩
theorem KeepR.below {B0 : Nat} {ts : List TypeId} {A B : World} (h : Below A.heap.size A B) (hB : B0 ≤ A.heap.size) : KeepR B0 ts A B := ⟨h.mono hB, fun g t cs hg _ => hg.below h hg.lt⟩
theorem keepR_b {B0 : Nat} {ts : List TypeId} {W : World} {l : Nat} {o : Obj} (o' : Obj) (hB : B0 ≤ l) (h : W.heap[l]? = some o) (ho : o.isCells = false) : KeepR B0 ts W (W.putObj l o') := by
  have hl : B0 ≤ W.heap.size := by have := (Array.getElem?_eq_some_iff.1 h).1; omega
  have hg := grownBy_putObj' W l o'
  refine ⟨(Below.refl B0 W).grown hg hl (fun k e => by cases e; exact hB), fun g t cs hBl _ => hBl.grown hg (fun e => ?_)⟩
  have e' : g = l := by simpa using e
  subst e'
  unfold Blk at hBl
  rw [h] at hBl
  cases hBl
  cases ho
theorem own_keptR {B0 : Nat} {ts : List TypeId} {A B : World} {base : Nat} {e : TypeId} {size n : Nat} {v : Value} {xs : List Value} (h : A.ownsRow base e size v n xs) (hk : KeepR B0 ts A B) (he : ¬ e ∈ ts) : B.ownsRow base e size v n xs := by
  rcases h.2 with ⟨rfl, h0⟩ | ⟨g, cap, cur, rfl, hb, hh, h1, h2, h3, h4⟩
  · exact ⟨h.1, .inl ⟨rfl, h0⟩⟩
  · exact ⟨h.1, .inr ⟨g, cap, cur, rfl, hb, hk.row _ _ _ hh he, h1, h2, h3, h4⟩⟩
end Sw
/- Steps of a reconciliation in memory; what an iterator of steps asks of its caller. -/
set_option linter.unusedVariables false
set_option linter.unusedSimpArgs false
namespace Sw
open Go Go.RowKit
/-- a step's cells -/
def eCR (s : StR) : List Value := [.string s.path, .int .i64 s.verdict, .int .i64 s.cls, .int .i64 s.left.kind, .int .i64 s.left.mode, .int .u32 s.left.time, .string s.left.data, .int .i64 s.right.kind, .int .i64 s.right.mode, .int .u32 s.right.time, .string s.right.data]
theorem eCR_len (s : StR) : (eCR s).length = 11 := rfl
end Sw
namespace Go.Proofs.YtnpehjgnplaabaaGreatDoor
open Go Go.RowKit
open Sw
theorem TreeAt.keptR {B0 : Nat} {ts : List TypeId} {W W' : World} {bt bm : Nat} {X : List NE} (h : TreeAt W bt bm X) (hk : KeepR B0 ts W W') (h1 : ¬ 110 ∈ ts) (h2 : ¬ 139 ∈ ts) (h3 : ¬ 146 ∈ ts) : TreeAt W' bt bm X := by
  refine ⟨hk.row _ _ _ h.box h1, ?_⟩
  obtain ⟨v, hb, ho⟩ := h.map.row
  exact ⟨⟨v, hk.row _ _ _ hb h2, own_keptR ho hk h3⟩, h.map.up, h.map.ok⟩
/-- a row of steps that the call owns -/
def OwnR (w : World) (base : Nat) (u : Value) (l : List StR) : Prop := w.ownsRow base 119 11 u l.length (l.flatMap eCR)
theorem OwnR.app {w1 : World} {base g cap n : Nat} {l : List StR} {x : StR} (h : w1.ownsRow base 119 11 (.slice (some ⟨g, 0, none⟩) (n + 1) cap) (n + 1) (l.flatMap eCR ++ eCR x)) (hn : l.length = n) : OwnR w1 base (.slice (some ⟨g, 0, none⟩) (n + 1) cap) (l ++ [x]) := by
  unfold OwnR
  rw [List.length_append, List.length_singleton, hn, List.flatMap_append]
  simpa using h
theorem OwnR.slv {w : World} {base : Nat} {u : Value} {l : List StR} (h : OwnR w base u l) : SlV w 11 eCR u l := SlV.of_own h eCR_len (by decide)
end Go.Proofs.YtnpehjgnplaabaaGreatDoor
/- Several texts, joined for the limit of sixty files; each one opens with its own comment. -/
/- recon.Each: an iterator over what is decided of each path. -/
set_option linter.unusedVariables false
set_option linter.unusedSimpArgs false
namespace Go.Proofs.YtnpehjgnplaabaaGreatDoor
open Go Go.RowKit Go.Shelf
open Sw
attribute [local go_sem] Oper.semAt_some
/-- what the iterator wants kept -/
def KeepOk (ts : List TypeId) : Prop := ¬ 24 ∈ ts ∧ ¬ 29 ∈ ts ∧ ¬ 110 ∈ ts ∧ ¬ 139 ∈ ts ∧ ¬ 146 ∈ ts ∧ ¬ 9 ∈ ts
/-- what lies in the boxes that the iterator has captured -/
structure EachAt (W : World) (gB gl gr bt bm bt2 bm2 : Nat) (u1 u2 : Value) (xs ys : List NE) : Prop where
  b0 : Blk W gB 24 #[u1, u2]
  b1 : Blk W gl 29 #[.pointer (some ⟨bt, 0, none⟩)]
  b2 : Blk W gr 29 #[.pointer (some ⟨bt2, 0, none⟩)]
  t1 : TreeAt W bt bm xs
  t2 : TreeAt W bt2 bm2 ys
section
variable {W W' : World} {gB gl gr bt bm bt2 bm2 B0 : Nat} {u1 u2 : Value} {xs ys : List NE}
theorem EachAt.below (h : EachAt W gB gl gr bt bm bt2 bm2 u1 u2 xs ys) (hb : Below W.heap.size W W') : EachAt W' gB gl gr bt bm bt2 bm2 u1 u2 xs ys :=
  ⟨h.b0.below hb h.b0.lt, h.b1.below hb h.b1.lt, h.b2.below hb h.b2.lt, h.t1.below hb, h.t2.below hb⟩
theorem EachAt.keptR {ts : List TypeId} (h : EachAt W gB gl gr bt bm bt2 bm2 u1 u2 xs ys) (hk : KeepR B0 ts W W') (ho : KeepOk ts) : EachAt W' gB gl gr bt bm bt2 bm2 u1 u2 xs ys :=
  ⟨hk.row _ _ _ h.b0 ho.1, hk.row _ _ _ h.b1 ho.2.1, hk.row _ _ _ h.b2 ho.2.1, h.t1.keptR hk ho.2.2.1 ho.2.2.2.1 ho.2.2.2.2.1, h.t2.keptR hk ho.2.2.1 ho.2.2.2.1 ho.2.2.2.2.1⟩
end
theorem flat_sR : ∀ (l : List ByteArray), l.flatMap sE = l.map Value.string
  | [] => rfl
  | x :: l => by rw [List.flatMap_cons, flat_sR l]; rfl
/-- recon.Each itself: three boxes and a function -/
theorem reconEach_any (w : World) (u1 u2 : Value) (bt bt2 : Nat) (A1 A2 : Option Addr) (n1 c1 n2 c2 : Nat) (e1 : u1 = .slice A1 n1 c1) (e2 : u2 = .slice A2 n2 c2) :
    Calls Tryz.prog 55 #[.agg #[u1, u2], .pointer (some ⟨bt, 0, none⟩), .pointer (some ⟨bt2, 0, none⟩)] w fun e w' =>
      e = .returned (.func (.func 91) #[] #[.pointer (some ⟨w.heap.size, 0, none⟩), .pointer (some ⟨w.heap.size + 1, 0, none⟩), .pointer (some ⟨w.heap.size + 1 + 1, 0, none⟩)]) ∧
      w' = ((w.alloc (.cells #[u1, u2] 24)).alloc (.cells #[.pointer (some ⟨bt, 0, none⟩)] 29)).alloc (.cells #[.pointer (some ⟨bt2, 0, none⟩)] 29) := by
  subst e1 e2
  go_enter Tryz.func55, Tryz.ntmps55
  go_wp2_with fail
  go_ret
  exact ⟨rfl, rfl⟩
end Go.Proofs.YtnpehjgnplaabaaGreatDoor
/- Several texts, joined for the limit of sixty files; each one opens with its own comment. -/
/- What an iterator asks of a caller that owns rows of texts: as KeepR, but of the texts' cells all lie as they lay but those that a block of the caller's holds. Over any program. -/
set_option linter.unusedVariables false
set_option linter.unusedSimpArgs false
namespace Sw
open Go Go.RowKit
/-- block g is one that a cell of block gs holds as a slice -/
def Cap (A : World) (gs g : Nat) : Prop := ∃ (t : TypeId) (cs : Array Value) (i : Nat) (v : Value), Blk A gs t cs ∧ cs[i]? = some v ∧ v.ownBlock = some g
/-- as KeepR; and of type ty all cells but those that gs holds lie as they lay; and what gs holds then it held, or it is new -/
structure KeepG (B0 : Nat) (ts : List TypeId) (ty : TypeId) (gs : Nat) (A B : World) : Prop where
  keep : KeepR B0 ts A B
  str : ∀ g cs, Blk A g ty cs → ¬ Cap A gs g → Blk B g ty cs
  cap : ∀ g, Cap B gs g → Cap A gs g ∨ A.heap.size ≤ g
section
variable {B0 : Nat} {ts : List TypeId} {ty : TypeId} {gs : Nat} {A B C : World}
theorem KeepG.trans (h : KeepG B0 ts ty gs A B) (k : KeepG B0 ts ty gs B C) : KeepG B0 ts ty gs A C :=
  ⟨h.keep.trans k.keep, fun g cs hg hn => k.str g cs (h.str g cs hg hn) (fun hc => by
    rcases h.cap g hc with h1 | h1
    · exact hn h1
    · have := hg.lt; omega), fun g hc => by
    rcases k.cap g hc with h1 | h1
    · exact h.cap g h1
    · exact .inr (Nat.le_trans h.keep.low.size h1)⟩
theorem KeepG.refl (B0 : Nat) (ts : List TypeId) (ty : TypeId) (gs : Nat) (A : World) : KeepG B0 ts ty gs A A := ⟨KeepR.refl _ _ _, fun _ _ h _ => h, fun _ h => .inl h⟩
theorem Cap.same {g : Nat} (h : Cap B gs g) (hb : B.heap[gs]? = A.heap[gs]?) : Cap A gs g := by
  obtain ⟨t, cs, i, v, h1, h2, h3⟩ := h
  exact ⟨t, cs, i, v, by unfold Blk at h1 ⊢; rw [← hb]; exact h1, h2, h3⟩
theorem KeepG.below (h : Below A.heap.size A B) (hB : B0 ≤ A.heap.size) (hg : gs < A.heap.size) : KeepG B0 ts ty gs A B :=
  ⟨KeepR.below h hB, fun g cs hb _ => hb.below h hb.lt, fun g hc => .inl (hc.same (h.block gs hg))⟩
theorem keepG_b {W : World} {l : Nat} {o : Obj} (o' : Obj) (hB : B0 ≤ l) (hgs : gs < l) (h : W.heap[l]? = some o) (ho : o.isCells = false) : KeepG B0 ts ty gs W (W.putObj l o') := by
  have hg := grownBy_putObj' W l o'
  refine ⟨keepR_b o' hB h ho, fun g cs hBl _ => hBl.grown hg (fun e => ?_), fun g hc => .inl (hc.same (World.putObj_heap_other (by omega)))⟩
  have e' : g = l := by simpa using e
  subst e'
  unfold Blk at hBl
  rw [h] at hBl
  cases hBl
  cases ho
/-- a row of such cells that the caller does not hold -/
theorem own_keptG {base : Nat} {size n : Nat} {v : Value} {xs : List Value} (h : A.ownsRow base ty size v n xs) (hk : KeepG B0 ts ty gs A B) (hn : ∀ g, v.ownBlock = some g → ¬ Cap A gs g) : B.ownsRow base ty size v n xs := by
  rcases h.2 with ⟨rfl, h0⟩ | ⟨g, cap, cur, rfl, hb, hh, h1, h2, h3, h4⟩
  · exact ⟨h.1, .inl ⟨rfl, h0⟩⟩
  · exact ⟨h.1, .inr ⟨g, cap, cur, rfl, hb, hk.str _ _ hh (hn g rfl), h1, h2, h3, h4⟩⟩
end
end Sw
