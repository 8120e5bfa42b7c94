/- Several texts, joined for the limit of sixty files; each one opens with its own comment. -/
import Derived.Test.YtlogdionhgabdaaDoorJoin11
/- slices.SortStableFunc at rows of stat.pair[int]: one thing merged with a block behind it. -/
set_option linter.unusedVariables false
set_option linter.unusedSimpArgs false
namespace Go.Proofs.YtlogdionhgabdaaDoor
open Go Go.RowKit
open Sw
def MergePostPI (cmp : Int × Int → Int × Int → Int) (w : World) (base : Nat) (A : Option Addr) (c n : Nat) (P X Q : List eDPI) (e : Ending) (w' : World) : Prop :=
  e = .returned (.tuple #[]) ∧ ∃ M : List eDPI, M.Perm X ∧ UpS cmp M ∧ RowDPI w' base (.slice A n c) n (P ++ M ++ Q) ∧ Below base w w'
theorem swap_next2 {β : Type} (P Q : List β) (x y : β) : ((P ++ x :: y :: Q).set P.length y).set (P.length + 1) x = P ++ y :: x :: Q := by
  simp [List.set_append]
theorem get_r {β : Type} (P R Q : List β) (x y : β) (k : Nat) (h : R[k]? = some y) : (P ++ x :: (R ++ Q))[P.length + 1 + k]? = some y := by
  rw [List.getElem?_append_right (by omega)]
  have e : P.length + 1 + k - P.length = k + 1 := by omega
  rw [e, List.getElem?_cons_succ, List.getElem?_append_left (List.getElem?_eq_some_iff.1 h).1, h]
set_option maxRecDepth 100000 in
set_option maxHeartbeats 8000000 in
theorem mergeLPI_any (cmp : Int × Int → Int × Int → Int) (HC : Cmp cmp) (hcall : ∀ W x y, Calls Tryd.prog 29 #[.agg (eCPI x).toArray, .agg (eCPI y).toArray] W fun e w' => e = .returned (.int .i64 (cmp x y)) ∧ Below W.heap.size W w')
    (w : World) (base : Nat) (A : Option Addr) (c : Nat) (n a m b : Nat) (P R Q : List eDPI) (x : eDPI) (hn : n ≤ 1000000) (hP : P.length = a) (hm : m = a + 1) (hR : m + R.length = b) (hup : UpS cmp R) (hcame : ∀ q ∈ R, x.2 < q.2) (hbs : base ≤ w.heap.size)
    (hrow : RowDPI w base (.slice A n c) n (P ++ x :: (R ++ Q))) :
    Calls Tryd.prog 49 #[.slice A n c, .int .i64 a, .int .i64 m, .int .i64 b, .func (.func 29) #[] #[]] w (MergePostPI cmp w base A c n P (x :: R) Q) := by
  have hlen : m + R.length + Q.length = n := by rw [← hrow.1, hm, ← hP]; simp only [List.length_append, List.length_cons]; omega
  obtain ⟨g, rfl, hbg, cur0, hB0, hgs0⟩ := hrow.form (by omega)
  have HR0 := Lib.hid (And.intro hrow (And.intro hup hcame))
  have HCC := Lib.hid hcall
  clear hrow hup hcame hcall hB0
  have w0 : IntKind.i64.wrap ((m : Int) - a) = 1 := by rw [IntWalk.i64_in _ (by omega)]; omega
  have hm1 : a < m := by omega
  have hm2 : m ≤ a + 1 := by omega
  clear hm
  go_enter Tryd.func49, Tryd.ntmps49
  go_wp2_with fail
  go_loopw [10, 11] (fun iv jv wr => ∃ (i j : Nat), iv = .int .i64 i ∧ jv = .int .i64 j ∧ m ≤ i ∧ i ≤ j ∧ j ≤ b ∧ (∀ z, 0 < i - m → R[i - m - 1]? = some z → Ah cmp z x) ∧ (∀ z, R[j - m]? = some z → Ah cmp x z) ∧ RowDPI wr base (.slice (some ⟨g, 0, none⟩) n c) n (P ++ x :: (R ++ Q)) ∧ Below base w wr ∧ base ≤ wr.heap.size) (fun iv jv _ => (intOf jv - intOf iv).toNat)
  case atStart =>
    refine ⟨m, b, rfl, rfl, Nat.le_refl _, by omega, Nat.le_refl _, fun z h => (by omega), fun z h => ?_, HR0.out.1, Below.refl _ _, hbs⟩
    have := (List.getElem?_eq_some_iff.1 h).1
    omega
  case round =>
    obtain ⟨i, j, rfl, rfl, hmi, hij, hjb, hlo, hhi, hrow, hbl, hbsr⟩ := hrel
    have HG := Lib.hid (And.intro hlo (And.intro hhi (And.intro hrow hbl))); clear hlo hhi hrow hbl
    by_cases hlt : i < j
    · have hlt1 : (i : Int) < j := by omega
      obtain ⟨h, hh⟩ : ∃ h : Nat, ((i : Int) + j) / 2 = h := ⟨(i + j) / 2, by omega⟩
      have hih : i ≤ h := by omega
      have hhj : h < j := by omega
      obtain ⟨y, hy⟩ : ∃ y, R[h - m]? = some y := ⟨_, List.getElem?_eq_getElem (by omega)⟩
      have hyR : y ∈ R := List.mem_of_getElem? hy
      obtain ⟨w2, hw2⟩ : ∃ w2, wr.drew = w2 := ⟨_, rfl⟩
      have hrow2 := HG.out.2.2.1.drew
      rw [hw2] at hrow2
      have hgx : (P ++ x :: (R ++ Q))[a]? = some x := by rw [← hP]; exact mid_get _ _ _
      have hgy : (P ++ x :: (R ++ Q))[h]? = some y := by
        have := get_r P R Q x y (h - m) hy
        rwa [show P.length + 1 + (h - m) = h by omega] at this
      have hcx := hrow2.cell a x hgx
      have hcy := hrow2.cell h y hgy
      have a0 : w2.cell? ⟨g, a * 2, none⟩ = _ := hcx 0 (by omega)
      have a1 : w2.cell? ⟨g, a * 2 + 1, none⟩ = _ := hcx 1 (by omega)
      simp only [eCPI, List.getElem?_cons_succ, List.getElem?_cons_zero] at a0 a1
      have b0 : w2.cell? ⟨g, h * 2, none⟩ = _ := hcy 0 (by omega)
      have b1 : w2.cell? ⟨g, h * 2 + 1, none⟩ = _ := hcy 1 (by omega)
      simp only [eCPI, List.getElem?_cons_succ, List.getElem?_cons_zero] at b0 b1
      clear hcx hcy
      have HCL := Lib.hid (HCC.out w2 y.1 x.1)
      have HX := Lib.hid (And.intro hrow2 (And.intro hy hyR)); clear hrow2 hy hyR hgx hgy
      have q1 : (i : Int) + j ≤ 2000000 := by omega
      have q2 : (h : Int) < n := by omega
      have q3 : (a : Int) < n := by omega
      have wh : IntKind.i64.wrap ((h : Int) + 1) = h + 1 := IntWalk.i64_in _ (by omega)
      go_wp2_with fail
      refine region_tail 9 (by kernel_rfl) (by kernel_rfl) w2 hw2 ?_
      simp only [List.take_succ_cons, List.take_zero, List.drop_succ_cons, List.drop_zero]
      repeat (go_big_quiet_step (fail))
      refine wpQuiet_nil ?_
      go_wp2_with fail
      refine HCL.out.mono ?_
      rintro e w3 ⟨rfl, hb3⟩
      have hrow3 := HX.out.1.kept hb3
      have hbl3 : Below base w w3 := by
        have h1 : Below base w w2 := by rw [← hw2]; exact HG.out.2.2.2.drew
        exact h1.trans (hb3.mono (by rw [← hw2]; exact hbsr))
      have hs3 : base ≤ w3.heap.size := Nat.le_trans hbsr (by have := hb3.size; rw [← hw2] at this; exact this)
      have H3 := Lib.hid (And.intro hrow3 (And.intro hbl3 hs3)); clear hb3 hbl3 hrow3 HCL
      by_cases hcm : cmp y.1 x.1 < 0
      · have hcd : decide (cmp y.1 x.1 < 0) = true := decide_eq_true hcm
        go_wp2_with fail
        go_roundw
        case rel =>
          refine ⟨h + 1, j, by go_num, rfl, by omega, by omega, hjb, fun z _ hz => ?_, HG.out.2.1, H3.out.1, H3.out.2.1, H3.out.2.2⟩
          rw [show h + 1 - m - 1 = h - m by omega, HX.out.2.1] at hz
          cases hz
          exact .inl hcm
        case measure => simp [intOf]; omega
      · have hcd : decide (cmp y.1 x.1 < 0) = false := decide_eq_false hcm
        go_wp2_with fail
        go_roundw
        case rel =>
          refine ⟨i, h, rfl, by go_num, hmi, hih, by omega, HG.out.1, fun z hz => ?_, H3.out.1, H3.out.2.1, H3.out.2.2⟩
          rw [HX.out.2.1] at hz
          cases hz
          exact (Ah.of_left HC (HR0.out.2.2 y HX.out.2.2)).2 (by omega)
        case measure => simp [intOf]; omega
    · obtain rfl : i = j := by omega
      clear hlt hij
      obtain ⟨R1, hR1⟩ : ∃ R1, R.take (i - m) = R1 := ⟨_, rfl⟩
      obtain ⟨R2, hR2⟩ : ∃ R2, R.drop (i - m) = R2 := ⟨_, rfl⟩
      have hl1 : R1.length = i - m := by rw [← hR1, List.length_take]; omega
      have HM := Lib.hid (by
        have h1 := UpS.put HC HR0.out.2.1 (i - m) (by omega) HG.out.1 HG.out.2.1
        have h2 := put_perm R x (i - m)
        rw [hR1, hR2] at h1 h2
        exact And.intro h1 h2)
      have hRR : R1 ++ R2 = R := by rw [← hR1, ← hR2, List.take_append_drop]
      have HRR := Lib.hid hRR; clear hRR hR1 hR2
      have wi : IntKind.i64.wrap ((i : Int) - 1) = i - 1 := IntWalk.i64_in _ (by omega)
      go_wp2_with fail
      go_loopw [13] (fun kv wr2 => ∃ (k : Nat) (V1 V2 : List eDPI), kv = .int .i64 k ∧ V1 ++ V2 = R1 ∧ a + V1.length = k ∧ RowDPI wr2 base (.slice (some ⟨g, 0, none⟩) n c) n (P ++ V1 ++ x :: (V2 ++ (R2 ++ Q))) ∧ Below base w wr2 ∧ base ≤ wr2.heap.size) (fun kv _ => i - (intOf kv).toNat)
      case atStart =>
        refine ⟨a, [], R1, rfl, rfl, rfl, ?_, HG.out.2.2.2, hbsr⟩
        have : P ++ [] ++ x :: (R1 ++ (R2 ++ Q)) = P ++ x :: (R ++ Q) := by rw [← HRR.out]; simp
        rw [this]; exact HG.out.2.2.1
      case round =>
        obtain ⟨k, V1, V2, rfl, hVV, hVk, hrow, hbl, hbs2⟩ := hrel
        have hV12 : V1.length + V2.length = R1.length := by rw [← hVV, List.length_append]
        have H2 := Lib.hid (And.intro hVV (And.intro hrow hbl)); clear hVV hrow hbl
        by_cases hki : k + 1 < i
        · have hki1 : (k : Int) < (i : Int) - 1 := by omega
          obtain ⟨y, V3, rfl⟩ : ∃ y V3, V2 = y :: V3 := by
            rcases V2 with _ | ⟨y, V3⟩
            · simp only [List.length_nil] at hV12; omega
            · exact ⟨y, V3, rfl⟩
          simp only [List.length_cons] at hV12
          obtain ⟨k1, hk1⟩ : ∃ k1 : Nat, k1 = k + 1 := ⟨_, rfl⟩
          have hPV : (P ++ V1).length = k := by rw [List.length_append]; omega
          have hgx : ((P ++ V1) ++ x :: (y :: V3 ++ (R2 ++ Q)))[k]? = some x := by rw [← hPV]; exact mid_get _ _ _
          have hgy : ((P ++ V1) ++ x :: (y :: V3 ++ (R2 ++ Q)))[k1]? = some y := by rw [hk1, ← hPV]; exact mid_get1 _ _ _ _
          have hcx := H2.out.2.1.cell k x hgx
          have hcy := H2.out.2.1.cell k1 y hgy
          have a0 : wr.cell? ⟨g, k * 2, none⟩ = _ := hcx 0 (by omega)
          have a1 : wr.cell? ⟨g, k * 2 + 1, none⟩ = _ := hcx 1 (by omega)
          simp only [eCPI, List.getElem?_cons_succ, List.getElem?_cons_zero] at a0 a1
          have b0 : wr.cell? ⟨g, k1 * 2, none⟩ = _ := hcy 0 (by omega)
          have b1 : wr.cell? ⟨g, k1 * 2 + 1, none⟩ = _ := hcy 1 (by omega)
          simp only [eCPI, List.getElem?_cons_succ, List.getElem?_cons_zero] at b0 b1
          obtain ⟨g', hge, hbg3, cur3, hB, hgs3⟩ := H2.out.2.1.form (by omega)
          obtain rfl : g = g' := congrArg Addr.block (Option.some.inj hge)
          have fa0 := hB.frozen (k * 2)
          have fa1 := hB.frozen (k * 2 + 1)
          have fb0 := hB.frozen (k1 * 2)
          have fb1 := hB.frozen (k1 * 2 + 1)
          have HSW := Lib.hid (by
            have h1 := H2.out.2.1.swap k k1 x y hgx hgy H2.out.2.2 hbg hbs2
            have hls : (((P ++ V1) ++ x :: (y :: V3 ++ (R2 ++ Q))).set k y).set k1 x = P ++ (V1 ++ [y]) ++ x :: (V3 ++ (R2 ++ Q)) := by
              rw [hk1, ← hPV]
              have := swap_next2 (P ++ V1) (V3 ++ (R2 ++ Q)) x y
              simp only [List.cons_append]
              rw [this]; simp
            rw [hls] at h1
            have h2 : base ≤ ((wr.setCells g (k * 2) (eCPI y.1)).setCells g (k1 * 2) (eCPI x.1)).heap.size := Nat.le_trans hbs2 (grown_setCells (eCPI x.1) (k1 * 2) _ (grown_setCells (eCPI y.1) (k * 2) wr (grown_refl wr (some g)))).size
            exact And.intro h1 h2)
          have wk : IntKind.i64.wrap ((k : Int) + 1) = k1 := by rw [IntWalk.i64_in _ (by omega)]; omega
          have q2 : (k : Int) < n := by omega
          have q3 : (k1 : Int) < n := by omega
          have q4 : k ≠ k1 := by omega
          have HK := Lib.hid hk1
          clear hcx hcy hB hge hgx hgy hPV hk1
          go_wp2_with fail
          go_region
          all_goals
            go_wp2_with fail
            go_roundw
            case rel =>
              refine ⟨k1, V1 ++ [y], V3, by go_num, by have := H2.out.1; simpa using this, by rw [List.length_append, List.length_singleton]; have := HK.out; omega, ?_, ?_, HSW.out.2⟩
              · first | exact HSW.out.1.1 | exact HSW.out.1.1.drew
              · first | exact HSW.out.1.2 | exact HSW.out.1.2.drew
            case measure => simp [intOf]; have := HK.out; omega
        · obtain rfl : V2 = [] := List.eq_nil_of_length_eq_zero (by omega)
          go_wp2_with fail
          go_end0
          refine ⟨rfl, R1 ++ x :: R2, HM.out.2, HM.out.1, ?_, H2.out.2.2⟩
          have h1 := H2.out.2.1
          have h2 := H2.out.1
          rw [List.append_nil] at h2
          rw [h2] at h1
          have e1 : P ++ R1 ++ x :: ([] ++ (R2 ++ Q)) = P ++ (R1 ++ x :: R2) ++ Q := by simp
          rw [e1] at h1
          exact h1
end Go.Proofs.YtlogdionhgabdaaDoor
