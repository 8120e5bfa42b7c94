/- Several texts, joined for the limit of sixty files; each one opens with its own comment. -/
import Derived.Test.YtnpehjgnplaabaaGreatDoorJoin15
/- Several texts, joined for the limit of sixty files; each one opens with its own comment. -/
/- slices.SortStableFunc at rows of api.Mark: one thing merged with a block behind it. -/
set_option linter.unusedVariables false
set_option linter.unusedSimpArgs false
namespace Go.Proofs.YtnpehjgnplaabaaGreatDoor
open Go Go.RowKit
open Sw
def MergePostMK (cmp : { s : ByteArray // s.size ≤ 90000 } × Pr → { s : ByteArray // s.size ≤ 90000 } × Pr → Int) (w : World) (base : Nat) (A : Option Addr) (c n : Nat) (P X Q : List eDMK) (e : Ending) (w' : World) : Prop :=
  e = .returned (.tuple #[]) ∧ ∃ M : List eDMK, M.Perm X ∧ UpS cmp M ∧ RowDMK w' base (.slice A n c) n (P ++ M ++ Q) ∧ Below base w w'
theorem swap_next2 {β : Type} (P Q : List β) (x y : β) : ((P ++ x :: y :: Q).set P.length y).set (P.length + 1) x = P ++ y :: x :: Q := by
  simp [List.set_append]
theorem get_r {β : Type} (P R Q : List β) (x y : β) (k : Nat) (h : R[k]? = some y) : (P ++ x :: (R ++ Q))[P.length + 1 + k]? = some y := by
  rw [List.getElem?_append_right (by omega)]
  have e : P.length + 1 + k - P.length = k + 1 := by omega
  rw [e, List.getElem?_cons_succ, List.getElem?_append_left (List.getElem?_eq_some_iff.1 h).1, h]
set_option maxRecDepth 100000 in
set_option maxHeartbeats 8000000 in
theorem mergeLMK_any (cmp : { s : ByteArray // s.size ≤ 90000 } × Pr → { s : ByteArray // s.size ≤ 90000 } × Pr → Int) (HC : Cmp cmp) (hcall : ∀ W x y, Calls Tryz.prog 89 #[.agg (eCMK x).toArray, .agg (eCMK y).toArray] W fun e w' => e = .returned (.int .i64 (cmp x y)) ∧ Below W.heap.size W w')
    (w : World) (base : Nat) (A : Option Addr) (c : Nat) (n a m b : Nat) (P R Q : List eDMK) (x : eDMK) (hn : n ≤ 1000000) (hP : P.length = a) (hm : m = a + 1) (hR : m + R.length = b) (hup : UpS cmp R) (hcame : ∀ q ∈ R, x.2 < q.2) (hbs : base ≤ w.heap.size)
    (hrow : RowDMK w base (.slice A n c) n (P ++ x :: (R ++ Q))) :
    Calls Tryz.prog 221 #[.slice A n c, .int .i64 a, .int .i64 m, .int .i64 b, .func (.func 89) #[] #[]] w (MergePostMK cmp w base A c n P (x :: R) Q) := by
  have hlen : m + R.length + Q.length = n := by rw [← hrow.1, hm, ← hP]; simp only [List.length_append, List.length_cons]; omega
  obtain ⟨g, rfl, hbg, cur0, hB0, hgs0⟩ := hrow.form (by omega)
  have HR0 := Lib.hid (And.intro hrow (And.intro hup hcame))
  have HCC := Lib.hid hcall
  clear hrow hup hcame hcall hB0
  have w0 : IntKind.i64.wrap ((m : Int) - a) = 1 := by rw [IntWalk.i64_in _ (by omega)]; omega
  have hm1 : a < m := by omega
  have hm2 : m ≤ a + 1 := by omega
  clear hm
  go_enter Tryz.func221, Tryz.ntmps221
  go_wp2_with fail
  go_loopw [10, 11] (fun iv jv wr => ∃ (i j : Nat), iv = .int .i64 i ∧ jv = .int .i64 j ∧ m ≤ i ∧ i ≤ j ∧ j ≤ b ∧ (∀ z, 0 < i - m → R[i - m - 1]? = some z → Ah cmp z x) ∧ (∀ z, R[j - m]? = some z → Ah cmp x z) ∧ RowDMK wr base (.slice (some ⟨g, 0, none⟩) n c) n (P ++ x :: (R ++ Q)) ∧ Below base w wr ∧ base ≤ wr.heap.size) (fun iv jv _ => (intOf jv - intOf iv).toNat)
  case atStart =>
    refine ⟨m, b, rfl, rfl, Nat.le_refl _, by omega, Nat.le_refl _, fun z h => (by omega), fun z h => ?_, HR0.out.1, Below.refl _ _, hbs⟩
    have := (List.getElem?_eq_some_iff.1 h).1
    omega
  case round =>
    obtain ⟨i, j, rfl, rfl, hmi, hij, hjb, hlo, hhi, hrow, hbl, hbsr⟩ := hrel
    have HG := Lib.hid (And.intro hlo (And.intro hhi (And.intro hrow hbl))); clear hlo hhi hrow hbl
    by_cases hlt : i < j
    · have hlt1 : (i : Int) < j := by omega
      obtain ⟨h, hh⟩ : ∃ h : Nat, ((i : Int) + j) / 2 = h := ⟨(i + j) / 2, by omega⟩
      have hih : i ≤ h := by omega
      have hhj : h < j := by omega
      obtain ⟨y, hy⟩ : ∃ y, R[h - m]? = some y := ⟨_, List.getElem?_eq_getElem (by omega)⟩
      have hyR : y ∈ R := List.mem_of_getElem? hy
      obtain ⟨w2, hw2⟩ : ∃ w2, wr.drew = w2 := ⟨_, rfl⟩
      have hrow2 := HG.out.2.2.1.drew
      rw [hw2] at hrow2
      have hgx : (P ++ x :: (R ++ Q))[a]? = some x := by rw [← hP]; exact mid_get _ _ _
      have hgy : (P ++ x :: (R ++ Q))[h]? = some y := by
        have := get_r P R Q x y (h - m) hy
        rwa [show P.length + 1 + (h - m) = h by omega] at this
      have hcx := hrow2.cell a x hgx
      have hcy := hrow2.cell h y hgy
      have a0 : w2.cell? ⟨g, a * 6, none⟩ = _ := hcx 0 (by omega)
      have a1 : w2.cell? ⟨g, a * 6 + 1, none⟩ = _ := hcx 1 (by omega)
      have a2 : w2.cell? ⟨g, a * 6 + 2, none⟩ = _ := hcx 2 (by omega)
      have a3 : w2.cell? ⟨g, a * 6 + 3, none⟩ = _ := hcx 3 (by omega)
      have a4 : w2.cell? ⟨g, a * 6 + 4, none⟩ = _ := hcx 4 (by omega)
      have a5 : w2.cell? ⟨g, a * 6 + 5, none⟩ = _ := hcx 5 (by omega)
      simp only [eCMK, List.getElem?_cons_succ, List.getElem?_cons_zero] at a0 a1 a2 a3 a4 a5
      have b0 : w2.cell? ⟨g, h * 6, none⟩ = _ := hcy 0 (by omega)
      have b1 : w2.cell? ⟨g, h * 6 + 1, none⟩ = _ := hcy 1 (by omega)
      have b2 : w2.cell? ⟨g, h * 6 + 2, none⟩ = _ := hcy 2 (by omega)
      have b3 : w2.cell? ⟨g, h * 6 + 3, none⟩ = _ := hcy 3 (by omega)
      have b4 : w2.cell? ⟨g, h * 6 + 4, none⟩ = _ := hcy 4 (by omega)
      have b5 : w2.cell? ⟨g, h * 6 + 5, none⟩ = _ := hcy 5 (by omega)
      simp only [eCMK, List.getElem?_cons_succ, List.getElem?_cons_zero] at b0 b1 b2 b3 b4 b5
      clear hcx hcy
      have HCL := Lib.hid (HCC.out w2 y.1 x.1)
      have HX := Lib.hid (And.intro hrow2 (And.intro hy hyR)); clear hrow2 hy hyR hgx hgy
      have q1 : (i : Int) + j ≤ 2000000 := by omega
      have q2 : (h : Int) < n := by omega
      have q3 : (a : Int) < n := by omega
      have wh : IntKind.i64.wrap ((h : Int) + 1) = h + 1 := IntWalk.i64_in _ (by omega)
      go_wp2_with fail
      refine region_tail 9 (by kernel_rfl) (by kernel_rfl) w2 hw2 ?_
      simp only [List.take_succ_cons, List.take_zero, List.drop_succ_cons, List.drop_zero]
      repeat (go_big_quiet_step (fail))
      refine wpQuiet_nil ?_
      go_wp2_with fail
      refine HCL.out.mono ?_
      rintro e w3 ⟨rfl, hb3⟩
      have hrow3 := HX.out.1.kept hb3
      have hbl3 : Below base w w3 := by
        have h1 : Below base w w2 := by rw [← hw2]; exact HG.out.2.2.2.drew
        exact h1.trans (hb3.mono (by rw [← hw2]; exact hbsr))
      have hs3 : base ≤ w3.heap.size := Nat.le_trans hbsr (by have := hb3.size; rw [← hw2] at this; exact this)
      have H3 := Lib.hid (And.intro hrow3 (And.intro hbl3 hs3)); clear hb3 hbl3 hrow3 HCL
      by_cases hcm : cmp y.1 x.1 < 0
      · have hcd : decide (cmp y.1 x.1 < 0) = true := decide_eq_true hcm
        go_wp2_with fail
        go_roundw
        case rel =>
          refine ⟨h + 1, j, by go_num, rfl, by omega, by omega, hjb, fun z _ hz => ?_, HG.out.2.1, H3.out.1, H3.out.2.1, H3.out.2.2⟩
          rw [show h + 1 - m - 1 = h - m by omega, HX.out.2.1] at hz
          cases hz
          exact .inl hcm
        case measure => simp [intOf]; omega
      · have hcd : decide (cmp y.1 x.1 < 0) = false := decide_eq_false hcm
        go_wp2_with fail
        go_roundw
        case rel =>
          refine ⟨i, h, rfl, by go_num, hmi, hih, by omega, HG.out.1, fun z hz => ?_, H3.out.1, H3.out.2.1, H3.out.2.2⟩
          rw [HX.out.2.1] at hz
          cases hz
          exact (Ah.of_left HC (HR0.out.2.2 y HX.out.2.2)).2 (by omega)
        case measure => simp [intOf]; omega
    · obtain rfl : i = j := by omega
      clear hlt hij
      obtain ⟨R1, hR1⟩ : ∃ R1, R.take (i - m) = R1 := ⟨_, rfl⟩
      obtain ⟨R2, hR2⟩ : ∃ R2, R.drop (i - m) = R2 := ⟨_, rfl⟩
      have hl1 : R1.length = i - m := by rw [← hR1, List.length_take]; omega
      have HM := Lib.hid (by
        have h1 := UpS.put HC HR0.out.2.1 (i - m) (by omega) HG.out.1 HG.out.2.1
        have h2 := put_perm R x (i - m)
        rw [hR1, hR2] at h1 h2
        exact And.intro h1 h2)
      have hRR : R1 ++ R2 = R := by rw [← hR1, ← hR2, List.take_append_drop]
      have HRR := Lib.hid hRR; clear hRR hR1 hR2
      have wi : IntKind.i64.wrap ((i : Int) - 1) = i - 1 := IntWalk.i64_in _ (by omega)
      go_wp2_with fail
      go_loopw [13] (fun kv wr2 => ∃ (k : Nat) (V1 V2 : List eDMK), kv = .int .i64 k ∧ V1 ++ V2 = R1 ∧ a + V1.length = k ∧ RowDMK wr2 base (.slice (some ⟨g, 0, none⟩) n c) n (P ++ V1 ++ x :: (V2 ++ (R2 ++ Q))) ∧ Below base w wr2 ∧ base ≤ wr2.heap.size) (fun kv _ => i - (intOf kv).toNat)
      case atStart =>
        refine ⟨a, [], R1, rfl, rfl, rfl, ?_, HG.out.2.2.2, hbsr⟩
        have : P ++ [] ++ x :: (R1 ++ (R2 ++ Q)) = P ++ x :: (R ++ Q) := by rw [← HRR.out]; simp
        rw [this]; exact HG.out.2.2.1
      case round =>
        obtain ⟨k, V1, V2, rfl, hVV, hVk, hrow, hbl, hbs2⟩ := hrel
        have hV12 : V1.length + V2.length = R1.length := by rw [← hVV, List.length_append]
        have H2 := Lib.hid (And.intro hVV (And.intro hrow hbl)); clear hVV hrow hbl
        by_cases hki : k + 1 < i
        · have hki1 : (k : Int) < (i : Int) - 1 := by omega
          obtain ⟨y, V3, rfl⟩ : ∃ y V3, V2 = y :: V3 := by
            rcases V2 with _ | ⟨y, V3⟩
            · simp only [List.length_nil] at hV12; omega
            · exact ⟨y, V3, rfl⟩
          simp only [List.length_cons] at hV12
          obtain ⟨k1, hk1⟩ : ∃ k1 : Nat, k1 = k + 1 := ⟨_, rfl⟩
          have hPV : (P ++ V1).length = k := by rw [List.length_append]; omega
          have hgx : ((P ++ V1) ++ x :: (y :: V3 ++ (R2 ++ Q)))[k]? = some x := by rw [← hPV]; exact mid_get _ _ _
          have hgy : ((P ++ V1) ++ x :: (y :: V3 ++ (R2 ++ Q)))[k1]? = some y := by rw [hk1, ← hPV]; exact mid_get1 _ _ _ _
          have hcx := H2.out.2.1.cell k x hgx
          have hcy := H2.out.2.1.cell k1 y hgy
          have a0 : wr.cell? ⟨g, k * 6, none⟩ = _ := hcx 0 (by omega)
          have a1 : wr.cell? ⟨g, k * 6 + 1, none⟩ = _ := hcx 1 (by omega)
          have a2 : wr.cell? ⟨g, k * 6 + 2, none⟩ = _ := hcx 2 (by omega)
          have a3 : wr.cell? ⟨g, k * 6 + 3, none⟩ = _ := hcx 3 (by omega)
          have a4 : wr.cell? ⟨g, k * 6 + 4, none⟩ = _ := hcx 4 (by omega)
          have a5 : wr.cell? ⟨g, k * 6 + 5, none⟩ = _ := hcx 5 (by omega)
          simp only [eCMK, List.getElem?_cons_succ, List.getElem?_cons_zero] at a0 a1 a2 a3 a4 a5
          have b0 : wr.cell? ⟨g, k1 * 6, none⟩ = _ := hcy 0 (by omega)
          have b1 : wr.cell? ⟨g, k1 * 6 + 1, none⟩ = _ := hcy 1 (by omega)
          have b2 : wr.cell? ⟨g, k1 * 6 + 2, none⟩ = _ := hcy 2 (by omega)
          have b3 : wr.cell? ⟨g, k1 * 6 + 3, none⟩ = _ := hcy 3 (by omega)
          have b4 : wr.cell? ⟨g, k1 * 6 + 4, none⟩ = _ := hcy 4 (by omega)
          have b5 : wr.cell? ⟨g, k1 * 6 + 5, none⟩ = _ := hcy 5 (by omega)
          simp only [eCMK, List.getElem?_cons_succ, List.getElem?_cons_zero] at b0 b1 b2 b3 b4 b5
          obtain ⟨g', hge, hbg3, cur3, hB, hgs3⟩ := H2.out.2.1.form (by omega)
          obtain rfl : g = g' := congrArg Addr.block (Option.some.inj hge)
          have fa0 := hB.frozen (k * 6)
          have fa1 := hB.frozen (k * 6 + 1)
          have fa2 := hB.frozen (k * 6 + 2)
          have fa3 := hB.frozen (k * 6 + 3)
          have fa4 := hB.frozen (k * 6 + 4)
          have fa5 := hB.frozen (k * 6 + 5)
          have fb0 := hB.frozen (k1 * 6)
          have fb1 := hB.frozen (k1 * 6 + 1)
          have fb2 := hB.frozen (k1 * 6 + 2)
          have fb3 := hB.frozen (k1 * 6 + 3)
          have fb4 := hB.frozen (k1 * 6 + 4)
          have fb5 := hB.frozen (k1 * 6 + 5)
          have HSW := Lib.hid (by
            have h1 := H2.out.2.1.swap k k1 x y hgx hgy H2.out.2.2 hbg hbs2
            have hls : (((P ++ V1) ++ x :: (y :: V3 ++ (R2 ++ Q))).set k y).set k1 x = P ++ (V1 ++ [y]) ++ x :: (V3 ++ (R2 ++ Q)) := by
              rw [hk1, ← hPV]
              have := swap_next2 (P ++ V1) (V3 ++ (R2 ++ Q)) x y
              simp only [List.cons_append]
              rw [this]; simp
            rw [hls] at h1
            have h2 : base ≤ ((wr.setCells g (k * 6) (eCMK y.1)).setCells g (k1 * 6) (eCMK x.1)).heap.size := Nat.le_trans hbs2 (grown_setCells (eCMK x.1) (k1 * 6) _ (grown_setCells (eCMK y.1) (k * 6) wr (grown_refl wr (some g)))).size
            exact And.intro h1 h2)
          have wk : IntKind.i64.wrap ((k : Int) + 1) = k1 := by rw [IntWalk.i64_in _ (by omega)]; omega
          have q2 : (k : Int) < n := by omega
          have q3 : (k1 : Int) < n := by omega
          have q4 : k ≠ k1 := by omega
          have HK := Lib.hid hk1
          clear hcx hcy hB hge hgx hgy hPV hk1
          go_wp2_with fail
          go_region
          all_goals
            go_wp2_with fail
            go_roundw
            case rel =>
              have HSV := HSW.out
              simp only [eCMK, World.setCells, Nat.add_assoc, Nat.reduceAdd] at HSV
              have hsz9 := HSV.2
              simp at hsz9
              refine ⟨k1, V1 ++ [y], V3, by go_num, by have := H2.out.1; simpa using this, by rw [List.length_append, List.length_singleton]; have := HK.out; omega, ?_, ?_, by simpa using hsz9⟩
              · first | exact HSV.1.1.drew | exact HSV.1.1
              · first | exact HSV.1.2.drew | exact HSV.1.2
            case measure => simp [intOf]; have := HK.out; omega
        · obtain rfl : V2 = [] := List.eq_nil_of_length_eq_zero (by omega)
          go_wp2_with fail
          go_end0
          refine ⟨rfl, R1 ++ x :: R2, HM.out.2, HM.out.1, ?_, H2.out.2.2⟩
          have h1 := H2.out.2.1
          have h2 := H2.out.1
          rw [List.append_nil] at h2
          rw [h2] at h1
          have e1 : P ++ R1 ++ x :: ([] ++ (R2 ++ Q)) = P ++ (R1 ++ x :: R2) ++ Q := by simp
          rw [e1] at h1
          exact h1
end Go.Proofs.YtnpehjgnplaabaaGreatDoor
/- slices.SortStableFunc at rows of api.Mark: a block merged with one thing behind it. -/
set_option linter.unusedVariables false
set_option linter.unusedSimpArgs false
namespace Go.Proofs.YtnpehjgnplaabaaGreatDoor
open Go Go.RowKit
open Sw
theorem get_l {β : Type} (P L T : List β) (y : β) (k : Nat) (h : L[k]? = some y) : (P ++ L ++ T)[P.length + k]? = some y := by
  rw [List.append_assoc, List.getElem?_append_right (by omega), show P.length + k - P.length = k by omega, List.getElem?_append_left (List.getElem?_eq_some_iff.1 h).1, h]
set_option maxRecDepth 100000 in
set_option maxHeartbeats 8000000 in
theorem mergeRMK_any (cmp : { s : ByteArray // s.size ≤ 90000 } × Pr → { s : ByteArray // s.size ≤ 90000 } × Pr → Int) (HC : Cmp cmp) (hcall : ∀ W x y, Calls Tryz.prog 89 #[.agg (eCMK x).toArray, .agg (eCMK y).toArray] W fun e w' => e = .returned (.int .i64 (cmp x y)) ∧ Below W.heap.size W w')
    (w : World) (base : Nat) (A : Option Addr) (c : Nat) (n a m b : Nat) (P L Q : List eDMK) (x : eDMK) (hn : n ≤ 1000000) (hP : P.length = a) (hL : a + L.length = m) (hL2 : 2 ≤ L.length) (hm : b = m + 1) (hup : UpS cmp L) (hcame : ∀ q ∈ L, q.2 < x.2) (hbs : base ≤ w.heap.size)
    (hrow : RowDMK w base (.slice A n c) n (P ++ L ++ x :: Q)) :
    Calls Tryz.prog 221 #[.slice A n c, .int .i64 a, .int .i64 m, .int .i64 b, .func (.func 89) #[] #[]] w (MergePostMK cmp w base A c n P (L ++ [x]) Q) := by
  have hlen : m + 1 + Q.length = n := by rw [← hrow.1, ← hL, ← hP]; simp only [List.length_append, List.length_cons]; omega
  obtain ⟨g, rfl, hbg, cur0, hB0, hgs0⟩ := hrow.form (by omega)
  have HR0 := Lib.hid (And.intro hrow (And.intro hup hcame))
  have HCC := Lib.hid hcall
  clear hrow hup hcame hcall hB0
  have w0 : IntKind.i64.wrap ((m : Int) - a) = m - a := IntWalk.i64_in _ (by omega)
  have w00 : ((m : Int) - a == 1) = false := by rw [beq_eq_false_iff_ne]; omega
  have w1 : IntKind.i64.wrap ((b : Int) - m) = 1 := by rw [IntWalk.i64_in _ (by omega)]; omega
  have hm1 : m < b := by omega
  have hm2 : b ≤ m + 1 := by omega
  clear hm
  go_enter Tryz.func221, Tryz.ntmps221
  go_wp2_with fail
  go_loopw [14, 15] (fun iv jv wr => ∃ (i j : Nat), iv = .int .i64 i ∧ jv = .int .i64 j ∧ a ≤ i ∧ i ≤ j ∧ j ≤ m ∧ (∀ z, 0 < i - a → L[i - a - 1]? = some z → Ah cmp z x) ∧ (∀ z, L[j - a]? = some z → Ah cmp x z) ∧ RowDMK wr base (.slice (some ⟨g, 0, none⟩) n c) n (P ++ L ++ x :: Q) ∧ Below base w wr ∧ base ≤ wr.heap.size) (fun iv jv _ => (intOf jv - intOf iv).toNat)
  case atStart =>
    refine ⟨a, m, rfl, rfl, Nat.le_refl _, by omega, Nat.le_refl _, fun z h => (by omega), fun z h => ?_, HR0.out.1, Below.refl _ _, hbs⟩
    have := (List.getElem?_eq_some_iff.1 h).1
    omega
  case round =>
    obtain ⟨i, j, rfl, rfl, hmi, hij, hjb, hlo, hhi, hrow, hbl, hbsr⟩ := hrel
    have HG := Lib.hid (And.intro hlo (And.intro hhi (And.intro hrow hbl))); clear hlo hhi hrow hbl
    by_cases hlt : i < j
    · have hlt1 : (i : Int) < j := by omega
      obtain ⟨h, hh⟩ : ∃ h : Nat, ((i : Int) + j) / 2 = h := ⟨(i + j) / 2, by omega⟩
      have hih : i ≤ h := by omega
      have hhj : h < j := by omega
      obtain ⟨y, hy⟩ : ∃ y, L[h - a]? = some y := ⟨_, List.getElem?_eq_getElem (by omega)⟩
      have hyR : y ∈ L := List.mem_of_getElem? hy
      obtain ⟨w2, hw2⟩ : ∃ w2, wr.drew = w2 := ⟨_, rfl⟩
      have hrow2 := HG.out.2.2.1.drew
      rw [hw2] at hrow2
      have hPL : (P ++ L).length = m := by rw [List.length_append]; omega
      have hgx : (P ++ L ++ x :: Q)[m]? = some x := by rw [← hPL]; exact mid_get _ _ _
      have hgy : (P ++ L ++ x :: Q)[h]? = some y := by
        have := get_l P L (x :: Q) y (h - a) hy
        rwa [show P.length + (h - a) = h by omega] at this
      clear hPL
      have hcx := hrow2.cell m x hgx
      have hcy := hrow2.cell h y hgy
      have a0 : w2.cell? ⟨g, m * 6, none⟩ = _ := hcx 0 (by omega)
      have a1 : w2.cell? ⟨g, m * 6 + 1, none⟩ = _ := hcx 1 (by omega)
      have a2 : w2.cell? ⟨g, m * 6 + 2, none⟩ = _ := hcx 2 (by omega)
      have a3 : w2.cell? ⟨g, m * 6 + 3, none⟩ = _ := hcx 3 (by omega)
      have a4 : w2.cell? ⟨g, m * 6 + 4, none⟩ = _ := hcx 4 (by omega)
      have a5 : w2.cell? ⟨g, m * 6 + 5, none⟩ = _ := hcx 5 (by omega)
      simp only [eCMK, List.getElem?_cons_succ, List.getElem?_cons_zero] at a0 a1 a2 a3 a4 a5
      have b0 : w2.cell? ⟨g, h * 6, none⟩ = _ := hcy 0 (by omega)
      have b1 : w2.cell? ⟨g, h * 6 + 1, none⟩ = _ := hcy 1 (by omega)
      have b2 : w2.cell? ⟨g, h * 6 + 2, none⟩ = _ := hcy 2 (by omega)
      have b3 : w2.cell? ⟨g, h * 6 + 3, none⟩ = _ := hcy 3 (by omega)
      have b4 : w2.cell? ⟨g, h * 6 + 4, none⟩ = _ := hcy 4 (by omega)
      have b5 : w2.cell? ⟨g, h * 6 + 5, none⟩ = _ := hcy 5 (by omega)
      simp only [eCMK, List.getElem?_cons_succ, List.getElem?_cons_zero] at b0 b1 b2 b3 b4 b5
      clear hcx hcy
      have HCL := Lib.hid (HCC.out w2 x.1 y.1)
      have HX := Lib.hid (And.intro hrow2 (And.intro hy hyR)); clear hrow2 hy hyR hgx hgy
      have q1 : (i : Int) + j ≤ 2000000 := by omega
      have q2 : (h : Int) < n := by omega
      have q3 : (m : Int) < n := by omega
      have wh : IntKind.i64.wrap ((h : Int) + 1) = h + 1 := IntWalk.i64_in _ (by omega)
      go_wp2_with fail
      refine region_tail 9 (by kernel_rfl) (by kernel_rfl) w2 hw2 ?_
      simp only [List.take_succ_cons, List.take_zero, List.drop_succ_cons, List.drop_zero]
      repeat (go_big_quiet_step (fail))
      refine wpQuiet_nil ?_
      go_wp2_with fail
      refine HCL.out.mono ?_
      rintro e w3 ⟨rfl, hb3⟩
      have hrow3 := HX.out.1.kept hb3
      have hbl3 : Below base w w3 := by
        have h1 : Below base w w2 := by rw [← hw2]; exact HG.out.2.2.2.drew
        exact h1.trans (hb3.mono (by rw [← hw2]; exact hbsr))
      have hs3 : base ≤ w3.heap.size := Nat.le_trans hbsr (by have := hb3.size; rw [← hw2] at this; exact this)
      have H3 := Lib.hid (And.intro hrow3 (And.intro hbl3 hs3)); clear hb3 hbl3 hrow3 HCL
      by_cases hcm : cmp x.1 y.1 < 0
      · have hcd : decide (cmp x.1 y.1 < 0) = true := decide_eq_true hcm
        go_wp2_with fail
        go_roundw
        case rel =>
          refine ⟨i, h, rfl, by go_num, hmi, hih, by omega, HG.out.1, fun z hz => ?_, H3.out.1, H3.out.2.1, H3.out.2.2⟩
          rw [HX.out.2.1] at hz
          cases hz
          exact .inl hcm
        case measure => simp [intOf]; omega
      · have hcd : decide (cmp x.1 y.1 < 0) = false := decide_eq_false hcm
        go_wp2_with fail
        go_roundw
        case rel =>
          refine ⟨h + 1, j, by go_num, rfl, by omega, by omega, hjb, fun z _ hz => ?_, HG.out.2.1, H3.out.1, H3.out.2.1, H3.out.2.2⟩
          rw [show h + 1 - a - 1 = h - a by omega, HX.out.2.1] at hz
          cases hz
          exact (Ah.of_left HC (HR0.out.2.2 y HX.out.2.2)).2 (by omega)
        case measure => simp [intOf]; omega
    · obtain rfl : i = j := by omega
      clear hlt hij
      obtain ⟨R1, hR1⟩ : ∃ R1, L.take (i - a) = R1 := ⟨_, rfl⟩
      obtain ⟨R2, hR2⟩ : ∃ R2, L.drop (i - a) = R2 := ⟨_, rfl⟩
      have hl1 : R1.length = i - a := by rw [← hR1, List.length_take]; omega
      have hl2 : R2.length = m - i := by rw [← hR2, List.length_drop]; omega
      have HM := Lib.hid (by
        have h1 := UpS.put HC HR0.out.2.1 (i - a) (by omega) HG.out.1 HG.out.2.1
        have h2 := put_perm L x (i - a)
        rw [hR1, hR2] at h1 h2
        exact And.intro h1 h2)
      have hRR : R1 ++ R2 = L := by rw [← hR1, ← hR2, List.take_append_drop]
      have HRR := Lib.hid hRR; clear hRR hR1 hR2
      go_wp2_with fail
      go_loopw [17] (fun kv wr2 => ∃ (k : Nat) (V1 V2 : List eDMK), kv = .int .i64 k ∧ V1 ++ V2 = R2 ∧ i + V1.length = k ∧ RowDMK wr2 base (.slice (some ⟨g, 0, none⟩) n c) n (P ++ R1 ++ V1 ++ x :: (V2 ++ Q)) ∧ Below base w wr2 ∧ base ≤ wr2.heap.size) (fun kv _ => (intOf kv).toNat)
      case atStart =>
        refine ⟨m, R2, [], rfl, List.append_nil _, by omega, ?_, HG.out.2.2.2, hbsr⟩
        have : P ++ R1 ++ R2 ++ x :: ([] ++ Q) = P ++ L ++ x :: Q := by rw [← HRR.out]; simp
        rw [this]; exact HG.out.2.2.1
      case round =>
        obtain ⟨k, V1, V2, rfl, hVV, hVk, hrow, hbl, hbs2⟩ := hrel
        have hV12 : V1.length + V2.length = R2.length := by rw [← hVV, List.length_append]
        have H2 := Lib.hid (And.intro hVV (And.intro hrow hbl)); clear hVV hrow hbl
        by_cases hki : i < k
        · have hki1 : (i : Int) < k := by omega
          obtain ⟨V0, y, hV0⟩ : ∃ V0 y, V1 = V0 ++ [y] := ⟨V1.dropLast, V1.getLast (by rintro rfl; simp at hVk; omega), (List.dropLast_concat_getLast _).symm⟩
          subst hV0
          rw [List.length_append, List.length_singleton] at hV12 hVk
          obtain ⟨k1, hk1⟩ : ∃ k1 : Nat, k = k1 + 1 := ⟨k - 1, by omega⟩
          have hPV : (P ++ R1 ++ V0).length = k1 := by rw [List.length_append, List.length_append]; omega
          have hform : P ++ R1 ++ (V0 ++ [y]) ++ x :: (V2 ++ Q) = (P ++ R1 ++ V0) ++ y :: x :: (V2 ++ Q) := by simp
          have hrowf := H2.out.2.1
          rw [hform] at hrowf
          have hgx : ((P ++ R1 ++ V0) ++ y :: x :: (V2 ++ Q))[k]? = some x := by rw [hk1, ← hPV]; exact mid_get1 _ _ _ _
          have hgy : ((P ++ R1 ++ V0) ++ y :: x :: (V2 ++ Q))[k1]? = some y := by rw [← hPV]; exact mid_get _ _ _
          have hcx := hrowf.cell k x hgx
          have hcy := hrowf.cell k1 y hgy
          have a0 : wr.cell? ⟨g, k * 6, none⟩ = _ := hcx 0 (by omega)
          have a1 : wr.cell? ⟨g, k * 6 + 1, none⟩ = _ := hcx 1 (by omega)
          have a2 : wr.cell? ⟨g, k * 6 + 2, none⟩ = _ := hcx 2 (by omega)
          have a3 : wr.cell? ⟨g, k * 6 + 3, none⟩ = _ := hcx 3 (by omega)
          have a4 : wr.cell? ⟨g, k * 6 + 4, none⟩ = _ := hcx 4 (by omega)
          have a5 : wr.cell? ⟨g, k * 6 + 5, none⟩ = _ := hcx 5 (by omega)
          simp only [eCMK, List.getElem?_cons_succ, List.getElem?_cons_zero] at a0 a1 a2 a3 a4 a5
          have b0 : wr.cell? ⟨g, k1 * 6, none⟩ = _ := hcy 0 (by omega)
          have b1 : wr.cell? ⟨g, k1 * 6 + 1, none⟩ = _ := hcy 1 (by omega)
          have b2 : wr.cell? ⟨g, k1 * 6 + 2, none⟩ = _ := hcy 2 (by omega)
          have b3 : wr.cell? ⟨g, k1 * 6 + 3, none⟩ = _ := hcy 3 (by omega)
          have b4 : wr.cell? ⟨g, k1 * 6 + 4, none⟩ = _ := hcy 4 (by omega)
          have b5 : wr.cell? ⟨g, k1 * 6 + 5, none⟩ = _ := hcy 5 (by omega)
          simp only [eCMK, List.getElem?_cons_succ, List.getElem?_cons_zero] at b0 b1 b2 b3 b4 b5
          obtain ⟨g', hge, hbg3, cur3, hB, hgs3⟩ := hrowf.form (by omega)
          obtain rfl : g = g' := congrArg Addr.block (Option.some.inj hge)
          have fa0 := hB.frozen (k * 6)
          have fa1 := hB.frozen (k * 6 + 1)
          have fa2 := hB.frozen (k * 6 + 2)
          have fa3 := hB.frozen (k * 6 + 3)
          have fa4 := hB.frozen (k * 6 + 4)
          have fa5 := hB.frozen (k * 6 + 5)
          have fb0 := hB.frozen (k1 * 6)
          have fb1 := hB.frozen (k1 * 6 + 1)
          have fb2 := hB.frozen (k1 * 6 + 2)
          have fb3 := hB.frozen (k1 * 6 + 3)
          have fb4 := hB.frozen (k1 * 6 + 4)
          have fb5 := hB.frozen (k1 * 6 + 5)
          have HSW := Lib.hid (by
            have h1 := hrowf.swap k k1 x y hgx hgy H2.out.2.2 hbg hbs2
            have hls : (((P ++ R1 ++ V0) ++ y :: x :: (V2 ++ Q)).set k y).set k1 x = P ++ R1 ++ V0 ++ x :: (y :: V2 ++ Q) := by
              rw [hk1, ← hPV, swap_next]; simp
            rw [hls] at h1
            have h2 : base ≤ ((wr.setCells g (k * 6) (eCMK y.1)).setCells g (k1 * 6) (eCMK x.1)).heap.size := Nat.le_trans hbs2 (grown_setCells (eCMK x.1) (k1 * 6) _ (grown_setCells (eCMK y.1) (k * 6) wr (grown_refl wr (some g)))).size
            exact And.intro h1 h2)
          have wk : IntKind.i64.wrap ((k : Int) - 1) = k1 := by rw [IntWalk.i64_in _ (by omega)]; omega
          have q2 : (k : Int) < n := by omega
          have q3 : (k1 : Int) < n := by omega
          have q4 : k ≠ k1 := by omega
          have HK := Lib.hid hk1
          clear hcx hcy hB hge hgx hgy hPV hk1 hrowf hform
          go_wp2_with fail
          go_region
          all_goals
            go_wp2_with fail
            go_roundw
            case rel =>
              have HSV := HSW.out
              simp only [eCMK, World.setCells, Nat.add_assoc, Nat.reduceAdd] at HSV
              have hsz9 := HSV.2
              simp at hsz9
              refine ⟨k1, V0, y :: V2, by go_num, by have := H2.out.1; simpa using this, by have := HK.out; omega, ?_, ?_, by simpa using hsz9⟩
              · first | exact HSV.1.1.drew | exact HSV.1.1
              · first | exact HSV.1.2.drew | exact HSV.1.2
            case measure => simp [intOf]; have := HK.out; omega
        · obtain rfl : V1 = [] := List.eq_nil_of_length_eq_zero (by omega)
          go_wp2_with fail
          go_end0
          refine ⟨rfl, R1 ++ x :: R2, HM.out.2.trans (by have := List.perm_middle (a := x) (l₁ := L) (l₂ := []); rw [List.append_nil] at this; exact this.symm), HM.out.1, ?_, H2.out.2.2⟩
          have h1 := H2.out.2.1
          have h2 := H2.out.1
          rw [List.nil_append] at h2
          rw [h2] at h1
          have e1 : P ++ R1 ++ [] ++ x :: (R2 ++ Q) = P ++ (R1 ++ x :: R2) ++ Q := by simp
          rw [e1] at h1
          exact h1
end Go.Proofs.YtnpehjgnplaabaaGreatDoor
