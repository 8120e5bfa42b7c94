/- The walk of SumNoughts. -/
import Derived.Test.YthdmajhhioiaoaaLift
import Derived.Test.YthdmajhhioiaoaaSumNought
set_option linter.unusedVariables false
namespace Go.Proofs.Ythdmajhhioiaoaa
open Go.ChangeShapes Go.WideShapes Go.ChangeAt Go.RowKit
open Go.ChangeMaps (open_string shut_string)
open Sw
theorem dec_str {H : Type} {enc : TypeId × Value → H} {w : World} (fuel : Nat) (c : Value) (x : DataW H × List MemPlace) (h : DataW.trod enc Try.prog w 0 (fun _ => true) true fuel 9 [c] = some x) :
    ∃ s : ByteArray, c = .string s ∧ s.size ≤ maxLen := by
  obtain ⟨s, hs, _, hl⟩ := DataW.trod_string Try.underlying9 h
  exact ⟨s, by simpa using hs, hl⟩
theorem joinS_of (s u : ByteArray) (hu : u.size ≤ 1000) : joinS (ofS s.data.toList) (ofS u.data.toList) (u.size : Int) = ofS (s ++ u).data.toList := by
  have e : noughts (u.size : Int) = u.data.toList.length := by
    rw [Array.length_toList, ByteArray.size_data]; unfold noughts; omega
  rw [joinS, e, ofS_append, ByteArray.data_append, Array.toList_append]
set_option maxRecDepth 100000 in
set_option maxHeartbeats 4000000 in
theorem sumNoughts_main (x : Nat) (n : Int) (s u : ByteArray) (w : World) (hx : x < 4294967296) (hn0 : -9223372036854775808 ≤ n) (hn1 : n ≤ 9223372036854775807) (hs : s.size ≤ maxLen) (hu : u.size ≤ maxLen) :
    Calls Try.prog 7 #[.int .u32 x, .int .i64 n, .agg #[.string s, .string u]] w fun e w' => e = .returned (.bool true) ∧ Below w.heap.size w w' := by
  obtain ⟨k, hks, hk2, hmk⟩ : ∃ k : Nat, k ≤ s.size ∧ k ≤ 1000 ∧ min (s.size : Int) 1000 = (k : Int) := ⟨min s.size 1000, by omega, by omega, by omega⟩
  obtain ⟨m, hmu, hm2, hmm⟩ : ∃ m : Nat, m ≤ u.size ∧ m ≤ 1000 ∧ min (u.size : Int) 1000 = (m : Int) := ⟨min u.size 1000, by omega, by omega, by omega⟩
  unfold maxLen at hs hu
  go_enter Try.func7, Try.ntmps7
  go_wp2_with fail
  go_quiet (fail)
  have hsl : (s.extract 0 k).size ≤ 1000 := by rw [ByteArray.size_extract]; omega
  have hul : (u.extract 0 m).size ≤ 1000 := by rw [ByteArray.size_extract]; omega
  generalize s.extract 0 k = s' at *
  generalize u.extract 0 m = u' at *
  have hb0 : Below w.heap.size w ((w.alloc (Obj.cells #[Value.string s, Value.string u] 29)).drewN nq) := below_drewN ((Below.refl _ _).alloc (Nat.le_refl _) _) nq
  generalize (w.alloc (Obj.cells #[Value.string s, Value.string u] 29)).drewN nq = w0 at *
  clear hmk hks hmm hmu hk2 hm2
  by_cases hbig : 2000 < n
  · have h1 := fun W => noughts_any W x 2147483648 hx
    have h2 := fun W => noughts_any W x 4611686018427387904 hx
    have e1 : noughts 2147483648 = 2147483648 := by decide
    have e2 : noughts 4611686018427387904 = 2147483648 := by decide
    rw [e1] at h1
    rw [e2] at h2
    generalize stpN (8 * 2147483648) x = y at h1 h2
    have H1 := Lib.hid h1; clear h1 e1
    have H2 := Lib.hid h2; clear h2 e2
    go_wp2_with (first | (go_at_call 43; first | (((with_reducible refine (H1.out _).mono ?_); rintro e w1 ⟨rfl, hb1⟩)) | (((with_reducible refine (H2.out _).mono ?_); rintro e w2 ⟨rfl, hb2⟩))) | (go_at_call 26; refine (sum_lives _).mono ?_; rintro e wL ⟨rfl, hbL⟩))
    go_ret
    exact ⟨rfl, ((hb0.trans (hb1.mono hb0.size)).trans (hb2.mono (hb0.trans (hb1.mono hb0.size)).size)).trans (hbL.mono ((hb0.trans (hb1.mono hb0.size)).trans (hb2.mono (hb0.trans (hb1.mono hb0.size)).size)).size)⟩
  · obtain ⟨N, hN, hNm⟩ : ∃ N : Nat, N ≤ 2000 ∧ max n 0 = (N : Int) := ⟨n.toNat, by omega, by omega⟩
    have hNn : noughts n = N := by unfold noughts; omega
    have hno := fun W => noughts_any W x n hx
    rw [hNn] at hno
    have HNO := Lib.hid hno; clear hno hNn
    go_wp2_with fail
    go_loop [9, 37] (fun y i => ∃ k : Nat, k ≤ N ∧ i = .int .i64 k ∧ y = .int .u32 (stpN (8 * k) x : Nat)) (fun _ i => N - (intOf i).toNat)
    case atStart => exact ⟨0, Nat.zero_le _, rfl, rfl⟩
    case round =>
      obtain ⟨k, hk, rfl, rfl⟩ := hrel
      by_cases hlt : k < N
      · have hy := stpN_lt (8 * k) x hx
        have hz : byteS (stpN (8 * k) x) 0 = stpN (8 * (k + 1)) x := by rw [noughtByte, ← stpN_add]; congr 1; omega
        have HZ := Lib.hid hz; clear hz
        generalize stpN (8 * k) x = y at *
        go_wp2_with (go_at_call 18; refine (refByte_any _ y 0 hy (by omega)).mono ?_; rintro e w' ⟨rfl, rfl⟩)
        exact ⟨⟨k + 1, by omega, by go_num, by rw [HZ.out]⟩, by simp [intOf]; omega⟩
      · obtain rfl : k = N := by omega
        have HS := Lib.hid (fun W => refOf_any W s' (by unfold maxLen; omega))
        have HU := Lib.hid (fun W => refOf_any W u' (by unfold maxLen; omega))
        have HSU := Lib.hid (fun W => refOf_any W (s' ++ u') (by rw [ByteArray.size_append]; unfold maxLen; omega))
        have hcat : ¬ 9223372036854775807 < s'.size + u'.size := by omega
        have HJ := Lib.hid (fun W => join_any W (ofS s'.data.toList) (ofS u'.data.toList) u'.size (ofS_lt _) (ofS_lt _))
        have hj := joinS_of s' u' hul
        generalize ofS s'.data.toList = a at *
        generalize ofS u'.data.toList = b at *
        generalize ofS (s' ++ u').data.toList = c at *
        generalize joinS a b u'.size = c' at *
        subst hj
        generalize stpN (8 * k) x = y at *
        go_wp2_with (first | (go_at_call 43; refine (HNO.out _).mono ?_; rintro e w1 ⟨rfl, hb1⟩) | (go_at_call 23; first | (((with_reducible refine (HS.out _).mono ?_); rintro e w' ⟨rfl, rfl⟩)) | (((with_reducible refine (HU.out _).mono ?_); rintro e w' ⟨rfl, rfl⟩)) | (((with_reducible refine (HSU.out _).mono ?_); rintro e w' ⟨rfl, rfl⟩))) | (go_at_call 44; refine (HJ.out _).mono ?_; rintro e w2 ⟨rfl, hb2⟩) | (go_at_call 26; refine (sum_lives _).mono ?_; rintro e wL ⟨rfl, hbL⟩))
        go_ret
        exact ⟨rfl, ((hb0.trans (hb1.mono hb0.size)).trans (hb2.mono (hb0.trans (hb1.mono hb0.size)).size)).trans (hbL.mono ((hb0.trans (hb1.mono hb0.size)).trans (hb2.mono (hb0.trans (hb1.mono hb0.size)).size)).size)⟩
theorem sumNoughts_walk : Walks 7 Try.f7 := by
  intro H enc W base args ds ps hval hA hlt hsz
  rw [Try.params7] at hA hval
  obtain ⟨v0, v1, v2, d0, d1, d2, p0, p1, p2, rfl, rfl, rfl, h0, h1, h2⟩ := trodAll_three hA
  obtain ⟨x, rfl, rfl, rfl, wx⟩ := open_int Try.underlying28 (hval 0 28 v0 rfl rfl) h0
  obtain ⟨n, rfl, rfl, rfl, wn⟩ := open_int Try.underlying3 (hval 1 3 v1 rfl rfl) h1
  obtain ⟨l, rfl, hl, hv⟩ := open_array_dec (n := 2) Value.string (fun s => s.size ≤ maxLen) Try.underlying29 (by kernel_rfl) (by kernel_rfl) dec_str (hval 2 29 v2 rfl rfl) h2
  obtain ⟨x0, x1⟩ := bounds_u32 wx
  obtain ⟨n0, n1⟩ := bounds_i64 wn
  obtain ⟨x, rfl⟩ := Int.eq_ofNat_of_zero_le x0
  obtain ⟨s, u, rfl⟩ : ∃ s u, l = [s, u] := by
    match l, hl with
    | [s, u], _ => exact ⟨s, u, rfl⟩
  exact sumNoughts_main x n s u W (by omega) (by omega) (by omega) (hv s (by simp)) (hv u (by simp))
end Go.Proofs.Ythdmajhhioiaoaa
