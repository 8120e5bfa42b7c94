/- Contracts of the reference of layer 25: Right, Write, Pad. -/
import Derived.Test.YtpnkgldpmalklaaCommit
import Derived.Test.YtpnkgldpmalklaaSumStep
set_option linter.unusedVariables false
set_option linter.unusedSimpArgs false
namespace Go.Proofs.Ytpnkgldpmalklaa
open Go.RowKit
open Sw
set_option maxRecDepth 100000 in
theorem rRight_any (t l : Int) (w : World) :
    Calls Try.prog 43 #[.agg #[.int .i64 t, .int .i64 l]] w fun e w' => e = .returned (.bool (mOk t l)) ∧ Below w.heap.size w w' := by
  have hB := (Below.refl w.heap.size w).alloc (Nat.le_refl _) (.cells #[.int .i64 t, .int .i64 l] 76)
  have HB := Lib.hid hB; clear hB
  by_cases h1 : 0 ≤ t
  · by_cases h2 : t ≤ 1099511627776
    · by_cases h3 : 534 ≤ l
      · by_cases h4 : l ≤ 4194304
        · have hm : mOk t l = true := by simp [mOk]; omega
          rw [hm]; clear hm
          go_enter Try.func43, Try.ntmps43
          go_wp2
          go_ret
          exact ⟨rfl, HB.out⟩
        · have hm : mOk t l = false := by simp [mOk]; omega
          rw [hm]; clear hm
          go_enter Try.func43, Try.ntmps43
          go_wp2
          go_ret
          exact ⟨rfl, HB.out⟩
      · have hm : mOk t l = false := by simp [mOk]; omega
        rw [hm]; clear hm
        go_enter Try.func43, Try.ntmps43
        go_wp2
        go_ret
        exact ⟨rfl, HB.out⟩
    · have hm : mOk t l = false := by simp [mOk]; omega
      rw [hm]; clear hm
      go_enter Try.func43, Try.ntmps43
      go_wp2
      go_ret
      exact ⟨rfl, HB.out⟩
  · have hm : mOk t l = false := by simp [mOk]; omega
    rw [hm]; clear hm
    go_enter Try.func43, Try.ntmps43
    go_wp2
    go_ret
    exact ⟨rfl, HB.out⟩
set_option maxRecDepth 100000 in
set_option maxHeartbeats 2000000 in
theorem rWrite_no (t l : Int) (w : World) (hm : mOk t l = false) :
    Calls Try.prog 45 #[.agg #[.int .i64 t, .int .i64 l]] w fun e w' => e = .returned (.string ⟨#[]⟩) ∧ Below w.heap.size w w' := by
  have hr := fun W => rRight_any t l W
  rw [hm] at hr
  have HB := Lib.hid ((Below.refl w.heap.size w).alloc (Nat.le_refl _) (.cells #[.int .i64 t, .int .i64 l] 76))
  go_enter Try.func45, Try.ntmps45
  go_wp2_with (go_at_call 43; refine (hr _).mono ?_; rintro e w1 ⟨rfl, hb1⟩)
  go_ret
  exact ⟨rfl, HB.out.trans (hb1.mono (by simp))⟩
def strSz : Value → Nat | .string s => s.size | _ => 0
theorem app_arr (a b : List UInt8) : ({ data := a.toArray } : ByteArray) ++ { data := b.toArray } = { data := (a ++ b).toArray } := by
  apply ByteArray.ext; simp
theorem app_zero (a : List UInt8) (k : Nat) : ({ data := (a ++ List.replicate k 0).toArray } : ByteArray) ++ { data := #[0] } = { data := (a ++ List.replicate (k + 1) 0).toArray } := by
  have := app_arr (a ++ List.replicate k 0) [0]
  rw [List.append_assoc, ← List.replicate_succ'] at this
  exact this
set_option maxRecDepth 100000 in
set_option maxHeartbeats 4000000 in
theorem rWrite_yes (t l : Nat) (w : World) (hm : mOk t l = true) :
    Calls Try.prog 45 #[.agg #[.int .i64 t, .int .i64 l]] w fun e w' => e = .returned (.string ⟨(markL t l).toArray⟩) ∧ Below w.heap.size w w' := by
  have hr := fun W => rRight_any t l W
  rw [hm] at hr
  have HB := Lib.hid ((Below.refl w.heap.size w).alloc (Nat.le_refl _) (.cells #[.int .i64 (t : Int), .int .i64 (l : Int)] 76))
  have hbx := Blk.new w 76 #[.int .i64 (t : Int), .int .i64 (l : Int)]
  have hbd : t ≤ 1099511627776 ∧ l ≤ 4194304 := by simp [mOk] at hm; omega
  clear hm
  go_enter Try.func45, Try.ntmps45
  go_wp2_with (go_at_call 43; refine (hr _).mono ?_; rintro e w1 ⟨rfl, hb1⟩)
  have hg := hbx.below hb1 (by simp)
  have hB1 := HB.out.trans (hb1.mono (by simp))
  have hsz1 : w.heap.size < w1.heap.size := by have := hb1.size; simp at this; omega
  have hput := fun (x : Nat) (hx : x < 2 ^ 64) W => refPut_any x 8 W hx 8 (by omega) (by decide)
  have hwt : IntKind.u64.wrap (t : Int) = t := IntWalk.u64_in _ ⟨by omega, by omega⟩
  have hwl : IntKind.u64.wrap (l : Int) = l := IntWalk.u64_in _ ⟨by omega, by omega⟩
  have HC := Lib.hid (And.intro (hput t (by omega)) (hput l (by omega))); clear hput hb1 hbx hr HB
  have HG := Lib.hid (And.intro hg (And.intro hB1 hsz1)); clear hg hB1
  have g0 := HG.out.1.cell 0
  have g1 := HG.out.1.cell 1
  simp at g0 g1
  have HQ : Hid (∀ W, Below w1.heap.size w1 W → W.cell? ⟨w.heap.size, 0, none⟩ = some (.int .i64 (t : Int)) ∧ W.cell? ⟨w.heap.size, 1, none⟩ = some (.int .i64 (l : Int))) :=
    Lib.hid fun W hW => ⟨(hW.cell (p := ⟨w.heap.size, 0, none⟩) hsz1).trans g0, (hW.cell (p := ⟨w.heap.size, 1, none⟩) hsz1).trans g1⟩
  have hl1 : (putL t 8).length = 8 := putL_length _ _
  have hl2 : (putL l 8).length = 8 := putL_length _ _
  go_region_held3 (fun w' => w'.cell? ⟨w.heap.size, 0, none⟩ = some (.int .i64 (t : Int)) ∧ w'.cell? ⟨w.heap.size, 1, none⟩ = some (.int .i64 (l : Int)))
    (first | exact ⟨g0, g1⟩ | exact HQ.out _ ((below_of_drew hx1).trans (hx2.mono hx1.size)) | exact HQ.out _ (below_of_drew hx1))
    (first | (go_at_call 74; (with_reducible refine (HC.out.1 _).mono ?_); rintro e x1 ⟨rfl, hx1⟩) | (go_at_call 74; (with_reducible refine (HC.out.2 _).mono ?_); rintro e x2 ⟨rfl, hx2⟩))
  have HB2 := Lib.hid (HG.out.2.1.trans (((below_of_drew hx1).trans (hx2.mono hx1.size)).mono (Nat.le_of_lt hsz1))); clear hx1 hx2 g0 g1
  have he : ({ data := #[83, 87, 73, 78, 71, 76, 69, 49] } : ByteArray) ++ { data := (putL t 8).toArray } ++ { data := (putL l 8).toArray } = { data := (headL t l).toArray } := by
    rw [show ({ data := #[83, 87, 73, 78, 71, 76, 69, 49] } : ByteArray) = { data := beginL.toArray } from rfl, app_arr, app_arr]; rfl
  rw [he]
  clear he
  have hlen := headL_len t l
  have hlen2 := crcL_len t l
  have hcrc := ofS_lt (headL t l)
  have hsz : ({ data := (headL t l).toArray } : ByteArray).size = 24 := by show (headL t l).toArray.size = 24; simp [headL_len]
  have hOf := fun W => refOf_any W ⟨(headL t l).toArray⟩ (by rw [hsz]; simp [maxLen])
  have hP4 := fun W => refPut_any (ofS (headL t l)) 4 W (by omega) 4 (by omega) (by decide)
  have hcw : IntKind.u64.wrap (ofS (headL t l) : Int) = ofS (headL t l) := IntWalk.u64_in _ ⟨by omega, by omega⟩
  have hl4 : (putL (ofS (headL t l)) 4).length = 4 := putL_length _ _
  have happ : ({ data := (headL t l).toArray } : ByteArray) ++ { data := (putL (ofS (headL t l)) 4).toArray } = { data := (crcL t l).toArray } := app_arr _ _
  have HA := Lib.hid (And.intro hOf (And.intro hP4 happ)); clear hOf hP4 happ
  have HC2 := Lib.hid hcrc; clear hcrc
  go_wp2_with (first | (go_at_call 64; refine (HA.out.1 _).mono ?_; rintro e y1 ⟨rfl, rfl⟩) | (go_at_call 74; refine (HA.out.2.1 _).mono ?_; rintro e y2 ⟨rfl, hy2⟩))
  rw [HA.out.2.2]
  have hBF := HB2.out.trans (hy2.mono HB2.out.size)
  have HBF := Lib.hid hBF; clear hBF hy2
  go_loop [3] (fun v => ∃ k : Nat, k ≤ 484 ∧ v = .string ⟨(crcL t l ++ List.replicate k 0).toArray⟩) (fun v => 512 - strSz v)
  case atStart => exact ⟨0, by omega, by simp⟩
  case round =>
    obtain ⟨k, hk, rfl⟩ := hrel
    have hz : (crcL t l ++ List.replicate k 0).length = 28 + k := by rw [List.length_append, hlen2, List.length_replicate]
    have hap := app_zero (crcL t l) k
    have hz2 : ({ data := (crcL t l ++ List.replicate k 0).toArray } : ByteArray).size = 28 + k := by show (crcL t l ++ List.replicate k 0).toArray.size = _; rw [List.size_toArray, hz]
    have hz3 : ({ data := (crcL t l ++ List.replicate (k + 1) 0).toArray } : ByteArray).size = 28 + (k + 1) := by show (crcL t l ++ List.replicate (k + 1) 0).toArray.size = _; rw [List.size_toArray, List.length_append, hlen2, List.length_replicate]
    by_cases hlt : k < 484
    · have HZ := Lib.hid (And.intro hap (And.intro hz2 hz3)); clear hap hz3
      go_wp2_with fail
      refine ⟨⟨k + 1, by omega, by rw [HZ.out.1]⟩, ?_⟩
      rw [HZ.out.1]
      simp only [strSz]
      rw [HZ.out.2.1, HZ.out.2.2]
      omega
    · obtain rfl : k = 484 := by omega
      clear hap hz3
      go_wp2_with fail
      go_ret
      exact ⟨rfl, HBF.out⟩
theorem rWrite_any (t l : Int) (w : World) :
    Calls Try.prog 45 #[.agg #[.int .i64 t, .int .i64 l]] w fun e w' => e = .returned (.string ⟨(writeL t l).toArray⟩) ∧ Below w.heap.size w w' := by
  cases hm : mOk t l with
  | false => rw [show writeL t l = [] by simp [writeL, hm]]; exact rWrite_no t l w hm
  | true =>
    have hb : 0 ≤ t ∧ 0 ≤ l := by simp [mOk] at hm; omega
    obtain ⟨t, rfl⟩ := Int.eq_ofNat_of_zero_le hb.1
    obtain ⟨l, rfl⟩ := Int.eq_ofNat_of_zero_le hb.2
    rw [show writeL (t : Int) (l : Int) = markL t l by simp [writeL, hm]]
    exact rWrite_yes t l w hm
set_option maxRecDepth 100000 in
set_option maxHeartbeats 2000000 in
theorem rPad_any (s : ByteArray) (w : World) (hs : s.size ≤ 100000) :
    Calls Try.prog 47 #[.string s] w fun e w' => e = .returned (.string ⟨(padL s.data.toList).toArray⟩) ∧ w = w' := by
  obtain ⟨L, hL⟩ : ∃ L, L = s.data.toList := ⟨_, rfl⟩
  have hs2 : s = ⟨L.toArray⟩ := by rw [hL]
  have hsz : L.length = s.size := by rw [hL, Array.length_toList]; rfl
  obtain ⟨K, hK⟩ : ∃ K : Nat, K = (L.length + 511) / 512 := ⟨_, rfl⟩
  obtain ⟨M, hM⟩ : ∃ M : Nat, M = 512 * K - L.length := ⟨_, rfl⟩
  rw [← hL]
  have hKb : K ≤ 1000 := by omega
  have hpad : padL L = L ++ List.replicate M 0 := by unfold padL; rw [hM, hK]
  rw [hpad]
  clear hpad hL
  subst hs2
  have hsn : ({ data := L.toArray } : ByteArray).size = L.length := by show L.toArray.size = _; simp
  have hLb : L.length ≤ 100000 := by omega
  have hKM : 512 * K = L.length + M ∧ ∀ k, k < K → 512 * k < L.length := by
    constructor
    · omega
    · intro k hk; omega
  have HK := Lib.hid hKM; clear hKM hK hM hsz hs
  go_enter Try.func47, Try.ntmps47
  go_wp2_with fail
  go_loop [3] (fun v => ∃ k : Nat, k ≤ K ∧ v = .int .i64 ((512 * k : Nat) : Int)) (fun v => 512 * K - (intOf v).toNat)
  case atStart => exact ⟨0, by omega, rfl⟩
  case round =>
    obtain ⟨k, hk, rfl⟩ := hrel
    have h1 := HK.out.1
    by_cases hlt : k < K
    · have h2 := HK.out.2 k hlt
      clear h1
      go_wp2_with fail
      refine ⟨⟨k + 1, by omega, by congr 1⟩, by simp only [intOf]; omega⟩
    · obtain rfl : k = K := by omega
      rw [h1]
      clear h1
      go_wp2_with fail
      go_loop [0] (fun v => ∃ m : Nat, m ≤ M ∧ v = .string ⟨(L ++ List.replicate m 0).toArray⟩) (fun v => L.length + M - strSz v)
      case atStart => exact ⟨0, by omega, by simp⟩
      case round =>
        obtain ⟨m, hm, rfl⟩ := hrel
        have hap := app_zero L m
        have hz2 : ({ data := (L ++ List.replicate m 0).toArray } : ByteArray).size = L.length + m := by show (L ++ List.replicate m 0).toArray.size = _; rw [List.size_toArray, List.length_append, List.length_replicate]
        have hz3 : ({ data := (L ++ List.replicate (m + 1) 0).toArray } : ByteArray).size = L.length + (m + 1) := by show (L ++ List.replicate (m + 1) 0).toArray.size = _; rw [List.size_toArray, List.length_append, List.length_replicate]
        have hkm := HK.out.1
        by_cases hlt2 : m < M
        · have HZ := Lib.hid (And.intro hap (And.intro hz2 hz3)); clear hap hz3
          go_wp2_with fail
          refine ⟨⟨m + 1, by omega, by rw [HZ.out.1]⟩, ?_⟩
          rw [HZ.out.1]
          simp only [strSz]
          rw [HZ.out.2.1, HZ.out.2.2]
          omega
        · obtain rfl : m = M := by omega
          clear hap hz3
          go_wp2_with fail
          go_ret
          exact ⟨rfl, rfl⟩
end Go.Proofs.Ytpnkgldpmalklaa
