/- Several texts, joined for the limit of sixty files; each one opens with its own comment. -/
import Derived.Test.YtnpehjgnplaabaaGreatDoorJoin16
import Derived.Test.YtnpehjgnplaabaaGreatDoorJoin15
/- Several texts, joined for the limit of sixty files; each one opens with its own comment. -/
/- slices.SortStableFunc at rows of api.Mark: two blocks merged, each of two things and more, under the law for shorter ones. -/
set_option linter.unusedVariables false
set_option linter.unusedSimpArgs false
namespace Go.Proofs.YtnpehjgnplaabaaGreatDoor
open Go Go.RowKit
open Sw
theorem RowDMK.rot {w : World} {base n c : Nat} {A : Option Addr} {cv : Value} {P U V Q : List eDMK} {a m b : Nat} (h : RowDMK w base (.slice A n c) n (P ++ U ++ V ++ Q)) (hn : n ≤ 1000000) (hP : P.length = a) (hU : a + U.length = m) (hV : m + V.length = b) (hU0 : 0 < U.length) (hV0 : 0 < V.length) {a0 : World} (hB : Below base a0 w) (hs : base ≤ w.heap.size) :
    Calls Tryz.prog 227 #[.slice A n c, .int .i64 a, .int .i64 m, .int .i64 b, cv] w fun e w' => e = .returned (.tuple #[]) ∧ RowDMK w' base (.slice A n c) n (P ++ V ++ U ++ Q) ∧ Below base a0 w' ∧ base ≤ w'.heap.size := by
  have h1 := h.2
  simp only [List.map_append] at h1
  refine (rotateMK_any w base A c cv n a m b (P.map Prod.fst) (U.map Prod.fst) (V.map Prod.fst) (Q.map Prod.fst) hn (by rw [← h.1]; simp) (by simpa using hP) (by simpa using hU) (by simpa using hV) (by simpa using hU0) (by simpa using hV0) h1).mono ?_
  rintro e w' ⟨rfl, ho, hg⟩
  refine ⟨rfl, ⟨?_, ?_⟩, own_below h1 hB hg (Nat.le_refl _) hs, Nat.le_trans hs hg.size⟩
  · rw [← h.1]; simp only [List.length_append]; omega
  · simp only [List.map_append]; exact ho
def ShorterMK (cmp : { s : ByteArray // s.size ≤ 90000 } × Pr → { s : ByteArray // s.size ≤ 90000 } × Pr → Int) (base : Nat) (A : Option Addr) (c n k : Nat) : Prop :=
  ∀ (W : World) (a m b : Nat) (P L R Q : List eDMK), L.length + R.length < k → P.length = a → a + L.length = m → m + R.length = b → 0 < L.length → 0 < R.length → UpS cmp L → UpS cmp R → Came L R → base ≤ W.heap.size → RowDMK W base (.slice A n c) n (P ++ L ++ R ++ Q) →
    Calls Tryz.prog 221 #[.slice A n c, .int .i64 a, .int .i64 m, .int .i64 b, .func (.func 89) #[] #[]] W (MergePostMK cmp W base A c n P (L ++ R) Q)
set_option maxRecDepth 100000 in
set_option maxHeartbeats 8000000 in
theorem mergeMMK_any (cmp : { s : ByteArray // s.size ≤ 90000 } × Pr → { s : ByteArray // s.size ≤ 90000 } × Pr → Int) (HC : Cmp cmp) (hcall : ∀ W x y, Calls Tryz.prog 89 #[.agg (eCMK x).toArray, .agg (eCMK y).toArray] W fun e w' => e = .returned (.int .i64 (cmp x y)) ∧ Below W.heap.size W w')
    (w : World) (base : Nat) (A : Option Addr) (c : Nat) (n a m b : Nat) (P L R Q : List eDMK) (hn : n ≤ 1000000) (hP : P.length = a) (hL : a + L.length = m) (hR : m + R.length = b) (hL2 : 2 ≤ L.length) (hR2 : 2 ≤ R.length) (hupL : UpS cmp L) (hupR : UpS cmp R) (hcame : Came L R) (hbs : base ≤ w.heap.size)
    (hrow : RowDMK w base (.slice A n c) n (P ++ L ++ R ++ Q)) (hrec : ShorterMK cmp base A c n (L.length + R.length)) :
    Calls Tryz.prog 221 #[.slice A n c, .int .i64 a, .int .i64 m, .int .i64 b, .func (.func 89) #[] #[]] w (MergePostMK cmp w base A c n P (L ++ R) Q) := by
  have hlen : b + Q.length = n := by rw [← hrow.1, ← hR, ← hL, ← hP]; simp only [List.length_append]
  obtain ⟨g, rfl, hbg, cur0, hB0, hgs0⟩ := hrow.form (by omega)
  have HR0 := Lib.hid (And.intro hrow (And.intro hupL (And.intro hupR hcame)))
  have HCC := Lib.hid hcall
  have HREC := Lib.hid hrec
  clear hrow hupL hupR hcame hcall hB0 hrec
  have w0 : IntKind.i64.wrap ((m : Int) - a) = m - a := IntWalk.i64_in _ (by omega)
  have w00 : ((m : Int) - a == 1) = false := by rw [beq_eq_false_iff_ne]; omega
  have w1 : IntKind.i64.wrap ((b : Int) - m) = b - m := IntWalk.i64_in _ (by omega)
  have w11 : ((b : Int) - m == 1) = false := by rw [beq_eq_false_iff_ne]; omega
  obtain ⟨mid, hmid⟩ : ∃ mid : Nat, ((a : Int) + b) / 2 = mid := ⟨(a + b) / 2, by omega⟩
  obtain ⟨N, hN⟩ : ∃ N : Nat, N = mid + m := ⟨_, rfl⟩
  have wN : IntKind.i64.wrap ((mid : Int) + m) = N := by rw [IntWalk.i64_in _ (by omega)]; omega
  obtain ⟨p, hp⟩ : ∃ p : Nat, N = p + 1 := ⟨mid + m - 1, by omega⟩
  have wp : IntKind.i64.wrap ((N : Int) - 1) = p := by rw [IntWalk.i64_in _ (by omega)]; omega
  obtain ⟨lo, hlo⟩ : ∃ lo : Nat, lo = N - b := ⟨_, rfl⟩
  have wlo : m > mid → IntKind.i64.wrap ((N : Int) - b) = lo := fun h => by rw [IntWalk.i64_in _ (by omega)]; omega
  have hmid1 : a + b ≤ 2 * mid + 1 := by omega
  have hmid2 : 2 * mid ≤ a + b := by omega
  have HNE := Lib.hid (And.intro hN (And.intro hp (And.intro hlo wlo))); clear hN hp hlo wlo
  have q0 : (a : Int) + b ≤ 2000000 := by omega
  go_enter Tryz.func221, Tryz.ntmps221
  go_upto_if 140 with fail
  go_cut [20, 21] from 140 to 146 (fun sv rv wx => ∃ (i j : Nat), sv = .int .i64 i ∧ rv = .int .i64 j ∧ a ≤ i ∧ i ≤ j ∧ j ≤ m ∧ j ≤ mid ∧ N ≤ i + b ∧ (i = a ∨ i + b = N) ∧ (j = m ∨ j = mid) ∧ wx = w)
  case first =>
    by_cases hmm : mid < m
    · have hmm1 : (mid : Int) < m := by omega
      have w4 := HNE.out.2.2.2 hmm
      go_wp2_with fail
      go_meet
      exact ⟨lo, mid, by go_num, rfl, by have := HNE.out.1; have := HNE.out.2.2.1; omega, by have := HNE.out.1; have := HNE.out.2.2.1; omega, by omega, Nat.le_refl _, by have := HNE.out.2.2.1; omega, .inr (by have := HNE.out.1; have := HNE.out.2.2.1; omega), .inr rfl, rfl⟩
    · have hmm1 : ¬ (mid : Int) < m := by omega
      go_wp2_with fail
      go_meet
      exact ⟨a, m, rfl, rfl, Nat.le_refl _, by omega, Nat.le_refl _, by omega, by have := HNE.out.1; omega, .inl rfl, .inl rfl, rfl⟩
  case rest =>
    obtain ⟨i0, j0, rfl, rfl, hai0, hij0, hjm0, hjd0, hNi0, hi0, hj0, rfl⟩ := hcut
    rename World => w9
    have HI0 := Lib.hid (And.intro hi0 hj0); clear hi0 hj0
    go_wp2_with fail
    go_loopw [20, 21] (fun iv jv wr => ∃ (i j : Nat), iv = .int .i64 i ∧ jv = .int .i64 j ∧ a ≤ i ∧ i ≤ j ∧ j ≤ m ∧ j ≤ mid ∧ N ≤ i + b ∧ (∀ y z, L[i - a - 1]? = some y → R[mid - i]? = some z → a < i → N < i + b → Ah cmp y z) ∧ (∀ y z, R[mid - j - 1]? = some z → L[j - a]? = some y → j < m → j < mid → Ah cmp z y) ∧ RowDMK wr base (.slice (some ⟨g, 0, none⟩) n c) n (P ++ L ++ R ++ Q) ∧ Below base w9 wr ∧ base ≤ wr.heap.size) (fun iv jv _ => (intOf jv - intOf iv).toNat)
    case atStart =>
      refine ⟨i0, j0, rfl, rfl, hai0, hij0, hjm0, hjd0, hNi0, fun y z _ _ h1 h2 => ?_, fun y z _ _ h1 h2 => ?_, HR0.out.1, Below.refl _ _, hbs⟩
      · rcases HI0.out.1 with h | h <;> omega
      · rcases HI0.out.2 with h | h <;> omega
    case round =>
      obtain ⟨i, j, rfl, rfl, hai, hij, hjm, hjd, hNi, hlo, hhi, hrow, hbl, hbsr⟩ := hrel
      have HG := Lib.hid (And.intro hlo (And.intro hhi (And.intro hrow hbl))); clear hlo hhi hrow hbl
      by_cases hlt : i < j
      · have hlt1 : (i : Int) < j := by omega
        obtain ⟨h, hh⟩ : ∃ h : Nat, ((i : Int) + j) / 2 = h := ⟨(i + j) / 2, by omega⟩
        have hih : i ≤ h := by omega
        have hhj : h < j := by omega
        obtain ⟨d, hd⟩ : ∃ d : Nat, p = d + h := ⟨p - h, by have := HNE.out.1; have := HNE.out.2.1; omega⟩
        have hdm : m + (mid - h - 1) = d := by have := HNE.out.1; have := HNE.out.2.1; omega
        have wd : IntKind.i64.wrap ((p : Int) - h) = d := by rw [IntWalk.i64_in _ (by omega)]; omega
        have hNN := HNE.out.1
        obtain ⟨y, hy⟩ : ∃ y, L[h - a]? = some y := ⟨_, List.getElem?_eq_getElem (by omega)⟩
        obtain ⟨z, hz⟩ : ∃ z, R[mid - h - 1]? = some z := ⟨_, List.getElem?_eq_getElem (by omega)⟩
        have hdn : d < n := by omega
        have hyL : y ∈ L := List.mem_of_getElem? hy
        have hzR : z ∈ R := List.mem_of_getElem? hz
        obtain ⟨w2, hw2⟩ : ∃ w2, wr.drew = w2 := ⟨_, rfl⟩
        have hrow2 := HG.out.2.2.1.drew
        rw [hw2] at hrow2
        have hPL : (P ++ L).length = m := by rw [List.length_append]; omega
        have hgy : (P ++ L ++ R ++ Q)[h]? = some y := by
          have := get_l P L (R ++ Q) y (h - a) hy
          rwa [show P.length + (h - a) = h by omega, ← List.append_assoc] at this
        have hgz : (P ++ L ++ R ++ Q)[d]? = some z := by
          have := get_l (P ++ L) R Q z (mid - h - 1) hz
          rwa [hPL, hdm] at this
        have hcz := hrow2.cell d z hgz
        have hcy := hrow2.cell h y hgy
        have a0 : w2.cell? ⟨g, d * 6, none⟩ = _ := hcz 0 (by omega)
        have a1 : w2.cell? ⟨g, d * 6 + 1, none⟩ = _ := hcz 1 (by omega)
        have a2 : w2.cell? ⟨g, d * 6 + 2, none⟩ = _ := hcz 2 (by omega)
        have a3 : w2.cell? ⟨g, d * 6 + 3, none⟩ = _ := hcz 3 (by omega)
        have a4 : w2.cell? ⟨g, d * 6 + 4, none⟩ = _ := hcz 4 (by omega)
        have a5 : w2.cell? ⟨g, d * 6 + 5, none⟩ = _ := hcz 5 (by omega)
        simp only [eCMK, List.getElem?_cons_succ, List.getElem?_cons_zero] at a0 a1 a2 a3 a4 a5
        have b0 : w2.cell? ⟨g, h * 6, none⟩ = _ := hcy 0 (by omega)
        have b1 : w2.cell? ⟨g, h * 6 + 1, none⟩ = _ := hcy 1 (by omega)
        have b2 : w2.cell? ⟨g, h * 6 + 2, none⟩ = _ := hcy 2 (by omega)
        have b3 : w2.cell? ⟨g, h * 6 + 3, none⟩ = _ := hcy 3 (by omega)
        have b4 : w2.cell? ⟨g, h * 6 + 4, none⟩ = _ := hcy 4 (by omega)
        have b5 : w2.cell? ⟨g, h * 6 + 5, none⟩ = _ := hcy 5 (by omega)
        simp only [eCMK, List.getElem?_cons_succ, List.getElem?_cons_zero] at b0 b1 b2 b3 b4 b5
        clear hcz hcy
        have HCL := Lib.hid (HCC.out w2 z.1 y.1)
        have HX := Lib.hid (And.intro hrow2 (And.intro hy (And.intro hz (HR0.out.2.2.2 y hyL z hzR)))); clear hrow2 hy hz hyL hzR hgy hgz hPL hd hdm hNN
        have q1 : (i : Int) + j ≤ 2000000 := by omega
        have q2 : (h : Int) < n := by omega
        have q3 : (d : Int) < n := by omega
        have wh : IntKind.i64.wrap ((h : Int) + 1) = h + 1 := IntWalk.i64_in _ (by omega)
        go_wp2_with fail
        refine region_tail 11 (by kernel_rfl) (by kernel_rfl) w2 hw2 ?_
        simp only [List.take_succ_cons, List.take_zero, List.drop_succ_cons, List.drop_zero]
        repeat (go_big_quiet_step (fail))
        refine wpQuiet_nil ?_
        go_wp2_with fail
        refine HCL.out.mono ?_
        rintro e w3 ⟨rfl, hb3⟩
        have hrow3 := HX.out.1.kept hb3
        have hbl3 : Below base w9 w3 := by
          have h1 : Below base w9 w2 := by rw [← hw2]; exact HG.out.2.2.2.drew
          exact h1.trans (hb3.mono (by rw [← hw2]; exact hbsr))
        have hs3 : base ≤ w3.heap.size := Nat.le_trans hbsr (by have := hb3.size; rw [← hw2] at this; exact this)
        have H3 := Lib.hid (And.intro hrow3 (And.intro hbl3 hs3)); clear hb3 hbl3 hrow3 HCL
        by_cases hcm : cmp z.1 y.1 < 0
        · have hcd : decide (cmp z.1 y.1 < 0) = true := decide_eq_true hcm
          go_wp2_with fail
          go_roundw
          case rel =>
            refine ⟨i, h, rfl, by go_num, hai, hih, by omega, by omega, hNi, HG.out.1, fun y' z' hz' hy' _ _ => ?_, H3.out.1, H3.out.2.1, H3.out.2.2⟩
            rw [HX.out.2.1] at hy'
            rw [HX.out.2.2.1] at hz'
            cases hy'
            cases hz'
            exact .inl hcm
          case measure => simp [intOf]; omega
        · have hcd : decide (cmp z.1 y.1 < 0) = false := decide_eq_false hcm
          go_wp2_with fail
          go_roundw
          case rel =>
            refine ⟨h + 1, j, by go_num, rfl, by omega, by omega, hjm, hjd, by omega, fun y' z' hy' hz' _ _ => ?_, HG.out.2.1, H3.out.1, H3.out.2.1, H3.out.2.2⟩
            rw [show h + 1 - a - 1 = h - a by omega, HX.out.2.1] at hy'
            rw [show mid - (h + 1) = mid - h - 1 by omega, HX.out.2.2.1] at hz'
            cases hy'
            cases hz'
            exact (Ah.of_left HC HX.out.2.2.2).2 (by omega)
          case measure => simp [intOf]; omega
      · obtain rfl : i = j := by omega
        clear hlt hij
        obtain ⟨L1, hL1⟩ : ∃ L1, L.take (i - a) = L1 := ⟨_, rfl⟩
        obtain ⟨L2, hL2'⟩ : ∃ L2, L.drop (i - a) = L2 := ⟨_, rfl⟩
        obtain ⟨R1, hR1⟩ : ∃ R1, R.take (mid - i) = R1 := ⟨_, rfl⟩
        obtain ⟨R2, hR2'⟩ : ∃ R2, R.drop (mid - i) = R2 := ⟨_, rfl⟩
        have hNN := HNE.out.1
        have l1 : a + L1.length = i := by rw [← hL1, List.length_take]; omega
        have l2 : i + L2.length = m := by rw [← hL2', List.length_drop]; omega
        have l3 : i + R1.length = mid := by rw [← hR1, List.length_take]; omega
        have l4 : R1.length + R2.length = R.length := by rw [← hR1, ← hR2', ← List.length_append, List.take_append_drop]
        have hLL : L1 ++ L2 = L := by rw [← hL1, ← hL2', List.take_append_drop]
        have hRR : R1 ++ R2 = R := by rw [← hR1, ← hR2', List.take_append_drop]
        have HCU := Lib.hid (by
          have h1 := cut_up HC HR0.out.2.1 HR0.out.2.2.1 (i - a) (mid - i) (by omega) (by omega) (fun h k => HG.out.1 _ _ (List.getElem?_eq_getElem (by omega)) (List.getElem?_eq_getElem k) (by omega) (by omega)) (fun h k => HG.out.2.1 _ _ (List.getElem?_eq_getElem (by omega)) (List.getElem?_eq_getElem h) (by omega) (by omega))
          rw [hL1, hL2', hR1, hR2'] at h1
          have h2 := HR0.out.2.1
          have h3 := HR0.out.2.2.1
          rw [← hLL] at h2
          rw [← hRR] at h3
          have h4 := HR0.out.2.2.2
          rw [← hLL, ← hRR] at h4
          exact And.intro h1 (And.intro h2 (And.intro h3 h4)))
        have hrow := HG.out.2.2.1
        have e1 : P ++ L ++ R ++ Q = P ++ L1 ++ L2 ++ R1 ++ (R2 ++ Q) := by rw [← hLL, ← hRR]; simp
        rw [e1] at hrow
        obtain ⟨e0, he0⟩ : ∃ e0 : Nat, e0 + i = N := ⟨N - i, by omega⟩
        have we : IntKind.i64.wrap ((N : Int) - i) = e0 := by rw [IntWalk.i64_in _ (by omega)]; omega
        have l5 : m + R1.length = e0 := by omega
        have l6 : e0 + R2.length = b := by omega
        have HF := Lib.hid (And.intro hrow (And.intro HG.out.2.2.2 hbsr)); clear hrow
        have HLR := Lib.hid (And.intro hLL hRR); clear hLL hRR hL1 hL2' hR1 hR2' e1 he0 hNN
        go_upto_region 39 with fail
        go_cut [185] from 178 to 185 (fun cv wx => cv = .bool (decide (i < m ∧ m < e0)) ∧ wx = wr)
        case first =>
          by_cases h1 : i < m
          · have h1d : decide ((i : Int) < m) = true := decide_eq_true (by omega)
            by_cases h2 : m < e0
            · have h2d : decide ((m : Int) < e0) = true := decide_eq_true (by omega)
              go_wp2_with fail
              go_meet
              exact ⟨by simp [h1, h2], rfl⟩
            · have h2d : decide ((m : Int) < e0) = false := decide_eq_false (by omega)
              go_wp2_with fail
              go_meet
              exact ⟨by simp [h1, h2], rfl⟩
          · have h1d : decide ((i : Int) < m) = false := decide_eq_false (by omega)
            go_wp2_with fail
            go_meet
            exact ⟨by simp [h1], rfl⟩
        case rest =>
          obtain ⟨rfl, hwc⟩ := hcut
          rw [← hwc] at HF
          clear hwc
          go_upto_if 185 with fail
          go_cut [24] from 185 to 191 (fun ev wx => ev = .int .i64 e0 ∧ RowDMK wx base (.slice (some ⟨g, 0, none⟩) n c) n (P ++ L1 ++ R1 ++ L2 ++ (R2 ++ Q)) ∧ Below base w9 wx ∧ base ≤ wx.heap.size)
          case first =>
            by_cases hb : i < m ∧ m < e0
            · have hbd : decide (i < m ∧ m < e0) = true := decide_eq_true hb
              have HS := Lib.hid (HF.out.1.rot (cv := .func (.func 89) #[] #[]) (a := i) (m := m) (b := e0) hn (by rw [List.length_append]; omega) l2 l5 (by omega) (by omega) HF.out.2.1 HF.out.2.2)
              go_wp2_with fail
              refine HS.out.mono ?_
              rintro e w3 ⟨rfl, hr3, hb3, hs3⟩
              have H3 := Lib.hid (And.intro hr3 (And.intro hb3 hs3)); clear hr3 hb3 hs3 HS
              go_wp2_with fail
              go_meet
              exact ⟨rfl, H3.out.1, H3.out.2.1, H3.out.2.2⟩
            · have hbd : decide (i < m ∧ m < e0) = false := decide_eq_false hb
              go_wp2_with fail
              go_meet
              refine ⟨rfl, ?_, HF.out.2.1, HF.out.2.2⟩
              have h1 := HF.out.1
              have h0 : i = m ∨ m = e0 := by omega
              rcases h0 with h0 | h0
              · have : L2 = [] := List.eq_nil_of_length_eq_zero (by omega)
                rw [this] at h1 ⊢
                simpa using h1
              · have : R1 = [] := List.eq_nil_of_length_eq_zero (by omega)
                rw [this] at h1 ⊢
                simpa using h1
          case rest =>
            obtain ⟨rfl, hr1, hb1, hs1⟩ := hcut
            rename World => wA
            have HA := Lib.hid (And.intro hr1 (And.intro hb1 hs1)); clear hr1 hb1 hs1
            go_upto_region 41 with fail
            go_cut [199] from 192 to 199 (fun cv wx => cv = .bool (decide (a < i ∧ i < mid)) ∧ wx = wA)
            case first =>
              by_cases h1 : a < i
              · have h1d : decide ((a : Int) < i) = true := decide_eq_true (by omega)
                by_cases h2 : i < mid
                · have h2d : decide ((i : Int) < mid) = true := decide_eq_true (by omega)
                  go_wp2_with fail
                  go_meet
                  exact ⟨by simp [h1, h2], rfl⟩
                · have h2d : decide ((i : Int) < mid) = false := decide_eq_false (by omega)
                  go_wp2_with fail
                  go_meet
                  exact ⟨by simp [h1, h2], rfl⟩
              · have h1d : decide ((a : Int) < i) = false := decide_eq_false (by omega)
                go_wp2_with fail
                go_meet
                exact ⟨by simp [h1], rfl⟩
            case rest =>
              obtain ⟨rfl, hwc⟩ := hcut
              rw [← hwc] at HA
              clear hwc
              go_upto_if 199 with fail
              go_cut [24] from 199 to 205 (fun ev wx => ev = .int .i64 e0 ∧ ∃ M1 : List eDMK, M1.Perm (L1 ++ R1) ∧ UpS cmp M1 ∧ RowDMK wx base (.slice (some ⟨g, 0, none⟩) n c) n (P ++ M1 ++ (L2 ++ R2 ++ Q)) ∧ Below base w9 wx ∧ base ≤ wx.heap.size)
              case first =>
                have hrA := HA.out.1
                have e1 : P ++ L1 ++ R1 ++ L2 ++ (R2 ++ Q) = P ++ L1 ++ R1 ++ (L2 ++ R2 ++ Q) := by simp
                rw [e1] at hrA
                clear e1
                have HRA := Lib.hid hrA; clear hrA
                by_cases hb : a < i ∧ i < mid
                · have hbd : decide (a < i ∧ i < mid) = true := decide_eq_true hb
                  have HS := Lib.hid (HREC.out wc a i mid P L1 R1 (L2 ++ R2 ++ Q) (by omega) hP l1 l3 (by omega) (by omega) HCU.out.2.1.left HCU.out.2.2.1.left (fun p hp q hq => HCU.out.2.2.2 p (List.mem_append_left _ hp) q (List.mem_append_left _ hq)) HA.out.2.2 HRA.out)
                  go_wp2_with fail
                  refine HS.out.mono ?_
                  rintro e w3 ⟨rfl, M1, hM1, hM2, hr3, hb3⟩
                  have H3 := Lib.hid (And.intro hM1 (And.intro hM2 (And.intro hr3 (And.intro (HA.out.2.1.trans hb3) (Nat.le_trans HA.out.2.2 hb3.size))))); clear hM1 hM2 hr3 hb3 HS
                  go_wp2_with fail
                  go_meet
                  exact ⟨rfl, M1, H3.out⟩
                · have hbd : decide (a < i ∧ i < mid) = false := decide_eq_false hb
                  go_wp2_with fail
                  go_meet
                  refine ⟨rfl, L1 ++ R1, List.Perm.refl _, ?_, ?_, HA.out.2.1, HA.out.2.2⟩
                  · have h0 : a = i ∨ i = mid := by omega
                    rcases h0 with h0 | h0
                    · have : L1 = [] := List.eq_nil_of_length_eq_zero (by omega)
                      rw [this]; exact HCU.out.2.2.1.left
                    · have : R1 = [] := List.eq_nil_of_length_eq_zero (by omega)
                      rw [this, List.append_nil]; exact HCU.out.2.1.left
                  · have h1 := HRA.out
                    rwa [List.append_assoc P] at h1
              case rest =>
                obtain ⟨rfl, M1, hM1, hM2, hr1, hb1, hs1⟩ := hcut
                rename World => wB
                have HB := Lib.hid (And.intro hM1 (And.intro hM2 (And.intro hr1 (And.intro hb1 hs1)))); clear hM1 hM2 hr1 hb1 hs1
                have hml : M1.length = L1.length + R1.length := by rw [HB.out.1.length_eq, List.length_append]
                go_upto_region 43 with fail
                go_cut [213] from 206 to 213 (fun cv wx => cv = .bool (decide (mid < e0 ∧ e0 < b)) ∧ wx = wB)
                case first =>
                  by_cases h1 : mid < e0
                  · have h1d : decide ((mid : Int) < e0) = true := decide_eq_true (by omega)
                    by_cases h2 : e0 < b
                    · have h2d : decide ((e0 : Int) < b) = true := decide_eq_true (by omega)
                      go_wp2_with fail
                      go_meet
                      exact ⟨by simp [h1, h2], rfl⟩
                    · have h2d : decide ((e0 : Int) < b) = false := decide_eq_false (by omega)
                      go_wp2_with fail
                      go_meet
                      exact ⟨by simp [h1, h2], rfl⟩
                  · have h1d : decide ((mid : Int) < e0) = false := decide_eq_false (by omega)
                    go_wp2_with fail
                    go_meet
                    exact ⟨by simp [h1], rfl⟩
                case rest =>
                  obtain ⟨rfl, hwc⟩ := hcut
                  rw [← hwc] at HB
                  clear hwc
                  have hrB := HB.out.2.2.1
                  have e1 : P ++ M1 ++ (L2 ++ R2 ++ Q) = (P ++ M1) ++ L2 ++ R2 ++ Q := by simp
                  rw [e1] at hrB
                  clear e1
                  have HRB := Lib.hid hrB; clear hrB
                  have HEND := Lib.hid (fun (M2 : List eDMK) (h1 : M2.Perm (L2 ++ R2)) (h2 : UpS cmp M2) => (by
                    refine ⟨?_, UpS.app HB.out.2.1 h2 fun p hp q hq => ?_⟩
                    · rw [← HLR.out.1, ← HLR.out.2]
                      refine (HB.out.1.append h1).trans ?_
                      rw [List.append_assoc, List.append_assoc]
                      refine List.Perm.append_left _ ?_
                      rw [← List.append_assoc, ← List.append_assoc]
                      exact List.Perm.append_right _ List.perm_append_comm
                    · exact HCU.out.1 p (HB.out.1.mem_iff.1 hp) q (h1.mem_iff.1 hq) : (M1 ++ M2).Perm (L ++ R) ∧ UpS cmp (M1 ++ M2)))
                  by_cases hb : mid < e0 ∧ e0 < b
                  · have hbd : decide (mid < e0 ∧ e0 < b) = true := decide_eq_true hb
                    have HS := Lib.hid (HREC.out wc mid e0 b (P ++ M1) L2 R2 Q (by omega) (by rw [List.length_append]; omega) (by omega) l6 (by omega) (by omega) HCU.out.2.1.right HCU.out.2.2.1.right (fun p hp q hq => HCU.out.2.2.2 p (List.mem_append_right _ hp) q (List.mem_append_right _ hq)) HB.out.2.2.2.2 HRB.out)
                    go_wp2_with fail
                    refine HS.out.mono ?_
                    rintro e w3 ⟨rfl, M2, hM1, hM2, hr3, hb3⟩
                    have H3 := Lib.hid (And.intro (HEND.out M2 hM1 hM2) (And.intro hr3 (HB.out.2.2.2.1.trans hb3))); clear hM1 hM2 hr3 hb3 HS
                    go_wp2_with fail
                    go_end0
                    refine ⟨rfl, M1 ++ M2, H3.out.1.1, H3.out.1.2, ?_, H3.out.2.2⟩
                    have h1 := H3.out.2.1
                    rwa [List.append_assoc P] at h1
                  · have hbd : decide (mid < e0 ∧ e0 < b) = false := decide_eq_false hb
                    have hup2 : UpS cmp (L2 ++ R2) := by
                      have h0 : mid = e0 ∨ e0 = b := by omega
                      rcases h0 with h0 | h0
                      · have : L2 = [] := List.eq_nil_of_length_eq_zero (by omega)
                        rw [this]; exact HCU.out.2.2.1.right
                      · have : R2 = [] := List.eq_nil_of_length_eq_zero (by omega)
                        rw [this, List.append_nil]; exact HCU.out.2.1.right
                    have H3 := Lib.hid (HEND.out _ (List.Perm.refl _) hup2); clear hup2
                    go_wp2_with fail
                    go_end0
                    refine ⟨rfl, M1 ++ (L2 ++ R2), H3.out.1, H3.out.2, ?_, HB.out.2.2.2.1⟩
                    have h1 := HRB.out
                    have e1 : P ++ M1 ++ L2 ++ R2 ++ Q = P ++ (M1 ++ (L2 ++ R2)) ++ Q := by simp
                    rwa [e1] at h1
end Go.Proofs.YtnpehjgnplaabaaGreatDoor
/- slices.SortStableFunc at rows of api.Mark: two blocks merged, whole. -/
set_option linter.unusedVariables false
set_option linter.unusedSimpArgs false
namespace Go.Proofs.YtnpehjgnplaabaaGreatDoor
open Go Go.RowKit
open Sw
theorem symMergeMK_any (cmp : { s : ByteArray // s.size ≤ 90000 } × Pr → { s : ByteArray // s.size ≤ 90000 } × Pr → Int) (HC : Cmp cmp) (hcall : ∀ W x y, Calls Tryz.prog 89 #[.agg (eCMK x).toArray, .agg (eCMK y).toArray] W fun e w' => e = .returned (.int .i64 (cmp x y)) ∧ Below W.heap.size W w')
    (base : Nat) (A : Option Addr) (c n : Nat) (hn : n ≤ 1000000) : ∀ k, ShorterMK cmp base A c n k := by
  intro k
  induction k with
  | zero => intro W a m b P L R Q h; exact absurd h (Nat.not_lt_zero _)
  | succ k ih =>
    intro W a m b P L R Q hk hP hL hR hL0 hR0 hupL hupR hcame hbs hrow
    by_cases h1 : L.length = 1
    · obtain ⟨x, rfl⟩ := List.length_eq_one_iff.1 h1
      have hr : RowDMK W base (.slice A n c) n (P ++ x :: (R ++ Q)) := by
        have e : P ++ [x] ++ R ++ Q = P ++ x :: (R ++ Q) := by simp
        rw [← e]; exact hrow
      exact mergeLMK_any cmp HC hcall W base A c n a m b P R Q x hn hP hL.symm hR hupR (fun q hq => hcame x (by simp) q hq) hbs hr
    · by_cases h2 : R.length = 1
      · obtain ⟨x, rfl⟩ := List.length_eq_one_iff.1 h2
        have hr : RowDMK W base (.slice A n c) n (P ++ L ++ x :: Q) := by
          have e : P ++ L ++ [x] ++ Q = P ++ L ++ x :: Q := by simp
          rw [← e]; exact hrow
        exact mergeRMK_any cmp HC hcall W base A c n a m b P L Q x hn hP hL (by omega) hR.symm hupL (fun q hq => hcame q hq x (by simp)) hbs hr
      · exact mergeMMK_any cmp HC hcall W base A c n a m b P L R Q hn hP hL hR (by omega) (by omega) hupL hupR hcame hbs hrow (fun W' a' m' b' P' L' R' Q' hk' => ih W' a' m' b' P' L' R' Q' (by omega))
end Go.Proofs.YtnpehjgnplaabaaGreatDoor
/- A stable sort, plainly: rows of blocks, each in order, each come ahead of the next. -/
set_option linter.unusedVariables false
set_option linter.unusedSimpArgs false
namespace Sw
section
variable {α : Type} {c : α → α → Int}
theorem Came.perm {l l' m m' : List (α × Nat)} (h : Came l m) (hl : l'.Perm l) (hm : m'.Perm m) : Came l' m' := fun p hp q hq => h p (hl.mem_iff.1 hp) q (hm.mem_iff.1 hq)
theorem came_two {X1 X2 : List (List (α × Nat))} {B1 B2 M : List (α × Nat)} (h : (X1 ++ B1 :: B2 :: X2).Pairwise Came) (hM : M.Perm (B1 ++ B2)) : (X1 ++ M :: X2).Pairwise Came := by
  obtain ⟨h1, h2, h3⟩ := List.pairwise_append.1 h
  obtain ⟨k1, k2⟩ := List.pairwise_cons.1 h2
  obtain ⟨k3, k4⟩ := List.pairwise_cons.1 k2
  have hin : ∀ p, p ∈ M → p ∈ B1 ∨ p ∈ B2 := fun p hp => List.mem_append.1 (hM.mem_iff.1 hp)
  refine List.pairwise_append.2 ⟨h1, List.pairwise_cons.2 ⟨fun Y hY p hp q hq => ?_, k4⟩, fun Z hZ Y hY => ?_⟩
  · rcases hin p hp with h | h
    · exact k1 Y (List.mem_cons_of_mem _ hY) p h q hq
    · exact k3 Y hY p h q hq
  · rcases List.mem_cons.1 hY with rfl | hY
    · intro p hp q hq
      rcases hin q hq with h | h
      · exact h3 Z hZ B1 (by simp) p hp q h
      · exact h3 Z hZ B2 (by simp) p hp q h
    · exact h3 Z hZ Y (by simp [hY])
theorem came_cut {X1 : List (List (α × Nat))} {T1 T2 M : List (α × Nat)} (h : (X1 ++ [T1 ++ T2]).Pairwise Came) (hr : (T1 ++ T2).Pairwise fun p q => p.2 < q.2) (hM : M.Perm T1) : (X1 ++ [M] ++ [T2]).Pairwise Came := by
  obtain ⟨h1, _, h3⟩ := List.pairwise_append.1 h
  have hc := (List.pairwise_append.1 hr).2.2
  rw [List.append_assoc]
  refine List.pairwise_append.2 ⟨h1, List.pairwise_cons.2 ⟨fun Y hY => ?_, List.pairwise_singleton _ _⟩, fun Z hZ Y hY => ?_⟩
  · obtain rfl := List.mem_singleton.1 hY
    exact fun p hp q hq => hc p (hM.mem_iff.1 hp) q hq
  · have h4 := h3 Z hZ _ (List.mem_singleton.2 rfl)
    simp only [List.cons_append, List.nil_append, List.mem_cons, List.not_mem_nil, or_false] at hY
    rcases hY with rfl | rfl
    · exact fun p hp q hq => h4 p hp q (List.mem_append_left _ (hM.mem_iff.1 hq))
    · exact fun p hp q hq => h4 p hp q (List.mem_append_right _ hq)
/-- blocks of one length, each in order -/
def Blks (c : α → α → Int) (bs : Nat) (bl : List (List (α × Nat))) : Prop := ∀ B ∈ bl, B.length = bs ∧ UpS c B
theorem Blks.nil {bs : Nat} : Blks c bs [] := fun B h => by cases h
theorem Blks.snoc {bs : Nat} {bl : List (List (α × Nat))} {B : List (α × Nat)} (h : Blks c bs bl) (hl : B.length = bs) (hu : UpS c B) : Blks c bs (bl ++ [B]) := fun Y hY => by
  rcases List.mem_append.1 hY with h' | h'
  · exact h Y h'
  · rw [List.mem_singleton.1 h']; exact ⟨hl, hu⟩
theorem Blks.len {bs : Nat} : ∀ {bl : List (List (α × Nat))}, Blks c bs bl → bl.flatten.length = bl.length * bs
  | [], _ => by simp
  | B :: bl, h => by
    rw [List.flatten_cons, List.length_append, (h B (by simp)).1, Blks.len (bl := bl) (fun Y hY => h Y (by simp [hY])), List.length_cons, Nat.add_mul, Nat.one_mul, Nat.add_comm]
/-- a whole row in blocks -/
def Sorts (c : α → α → Int) (bs : Nat) (X l : List (α × Nat)) : Prop :=
  ∃ (bl : List (List (α × Nat))) (F : List (α × Nat)), l = bl.flatten ++ F ∧ Blks c bs bl ∧ F.length < bs ∧ UpS c F ∧ (bl ++ [F]).Pairwise Came ∧ l.Perm X
/-- blocks as long as the row: the row is in order -/
theorem Sorts.done {bs : Nat} {X l : List (α × Nat)} (h : Sorts c bs X l) (hl : l.length ≤ bs) : l.Perm X ∧ UpS c l := by
  obtain ⟨bl, F, rfl, hb, hF, hu, hc, hp⟩ := h
  refine ⟨hp, ?_⟩
  rcases bl with _ | ⟨B, bl⟩
  · simpa using hu
  · have h1 := hb B (by simp)
    rw [List.flatten_cons, List.length_append, List.length_append, h1.1] at hl
    have e1 : F = [] := List.eq_nil_of_length_eq_zero (by omega)
    have e2 : bl.flatten = [] := List.eq_nil_of_length_eq_zero (by omega)
    rw [List.flatten_cons, e1, e2]
    simpa using h1.2
end
end Sw
