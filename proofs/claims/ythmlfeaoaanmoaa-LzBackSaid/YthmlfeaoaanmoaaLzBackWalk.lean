/- The walk of LzBack. -/
import Derived.Test.YthmlfeaoaanmoaaLzMatchB
import Derived.Test.YthmlfeaoaanmoaaLzExpandsWalk
set_option linter.unusedVariables false
set_option linter.unusedSimpArgs false
namespace Go.Proofs.Ythmlfeaoaanmoaa
open Go Go.ChangeShapes Go.WideShapes Go.ChangeAt Go.RowKit
open Go.ChangeMaps (open_string shut_string)
open Sw
theorem refExpand_back (W : World) (A : Option Addr) (c : Nat) (ts : List Tk) (S : ByteArray) (hc : ts.length ≤ c) (hm : c ≤ maxLen) (hs : SlOf W 3 tkC A ts) (hin : ∀ t ∈ ts, TkIn t) (hx : expT ts [] = some S.data.toList) :
    Calls Try.prog 44 #[.slice A ts.length c] W fun e w' => e = .returned (.tuple #[.string S, .bool true]) ∧ Below W.heap.size W w' := by
  refine (refExpand_any W A ts.length c ts rfl (by omega) hs hin).mono fun e w' h => ?_
  obtain ⟨h1, h2⟩ := exp_post h
  refine ⟨?_, h2⟩
  rw [h1]
  unfold expR
  rw [hx]
/-- so many bytes 'x' -/
def xsB (i : Nat) : ByteArray := ⟨(List.replicate i (120 : UInt8)).toArray⟩
theorem xsB_succ (i : Nat) : xsB i ++ (⟨#[120]⟩ : ByteArray) = xsB (i + 1) := by
  apply ByteArray.ext
  rw [ByteArray.data_append]
  apply Array.ext'
  simp only [xsB, Array.toList_append, List.replicate_succ']
theorem xsB_size (i : Nat) : (xsB i).size = i := by
  show (List.replicate i (120 : UInt8)).toArray.size = i
  simp
theorem xsB_alike (i : Nat) : Alike (xsB i) := by
  have h : ∀ k (hk : k < (xsB i).size), (xsB i)[k] = 120 := fun k hk => by
    show (List.replicate i (120 : UInt8)).toArray[k]'(by simpa [xsB_size] using hk) = 120
    simp
  intro a b ha hb
  rw [h a ha, h b hb]
set_option maxRecDepth 100000 in
set_option maxHeartbeats 4000000 in
theorem lzBack_main (w : World) (s : ByteArray) (lv n : Int) (hm : s.size ≤ maxLen) (hl : -9223372036854775808 ≤ lv ∧ lv ≤ 9223372036854775807) (hn : 0 ≤ n ∧ n ≤ 18446744073709551615) :
    Calls Try.prog 11 #[.string s, .int .i64 lv, .int .u64 n] w fun e w' => e = .returned (.bool true) ∧ Below w.heap.size w w' := by
  unfold maxLen at hm
  obtain ⟨k, hk, hmin⟩ : ∃ k : Nat, k ≤ s.size ∧ min (s.size : Int) 600 = k := ⟨min s.size 600, by omega, by omega⟩
  have hk6 : k ≤ 600 := by omega
  have hsz : (s.extract 0 k).size = k := by rw [ByteArray.size_extract]; omega
  obtain ⟨S, hS⟩ : ∃ S, S = s.extract 0 k := ⟨_, rfl⟩
  rw [← hS] at hsz
  have HM := Lib.hid (fun W => match_all W S lv (by omega) hl)
  have HB := Lib.hid (fun W => (refBytes_any W S (by omega)).mono fun e w' h => tok_sl h)
  have HSZ := Lib.hid hsz
  have hSe : s.extract 0 k = S := hS.symm
  clear hS
  have hszI : (S.size : Int) = k := by omega
  clear hsz
  have hss : (S.toList == S.toList) = true := by simp
  go_enter Try.func11, Try.ntmps11
  go_wp2_with fail
  refine (HM.out _).mono ?_
  rintro e w1 ⟨v, ts, rfl, ⟨A1, c1, rfl, hc1, hm1, hs1⟩, hb1, hok⟩
  have HE := Lib.hid (refExpand_back w1 A1 c1 ts S hc1 hm1 hs1 hok.tin hok.exp)
  have hlen : ts.length ≤ k := by have := hok.len; have := HSZ.out; omega
  have HLOW := Lib.hid hok.low; clear hok
  unfold maxLen at hm1
  have hts : ts.length ≤ 600 := by omega
  have HS1 := Lib.hid hs1; clear hs1
  go_wp2_with fail
  refine HE.out.mono ?_
  rintro e w2 ⟨rfl, hb2⟩
  have hbw2 : Below w.heap.size w w2 := hb1.trans (hb2.mono hb1.size)
  have HS2 := Lib.hid (HS1.out.below hb2 (Nat.le_refl _)); clear HS1 HE
  go_upto_region 4 with fail
  go_cut [51] from 27 to 51 (fun v wx => v = .bool false ∧ Below w.heap.size w wx)
  case first =>
    by_cases h0 : lv ≤ 0
    · have hlow := HLOW.out h0
      subst hlow
      have hss2 : (S.toList != S.toList) = false := by simp
      go_wp2_with fail
      refine (HB.out _).mono ?_
      rintro e w3 ⟨v2, rfl, ⟨A2, c2, rfl, hc2, hm2, hs2⟩, hb3⟩
      have HSM := Lib.hid (refSame_yes w3 A1 A2 c1 c2 _ _ rfl (by omega) (HS2.out.below hb3 (Nat.le_refl _)) hs2)
      clear hs2
      go_wp2_with fail
      refine HSM.out.mono ?_
      rintro e w4 ⟨rfl, m4, rfl⟩
      go_wp2_with fail
      go_meet
      case rel => exact ⟨by rw [decide_eq_false (by omega)], below_drewN (hbw2.trans (hb3.mono hbw2.size)) m4⟩
    · have hss2 : (S.toList != S.toList) = false := by simp
      go_wp2_with fail
      go_meet
      case rel => exact ⟨by rw [decide_eq_false (by omega)], hbw2⟩
  case rest =>
    obtain ⟨rfl, hbc⟩ := hcut
    obtain ⟨N, hN⟩ : ∃ N : Nat, n % 400 = N := ⟨(n % 400).toNat, by omega⟩
    have hN4 : N ≤ 399 := by omega
    have HXS := Lib.hid xsB_succ
    have hx0 : (⟨#[]⟩ : ByteArray) = xsB 0 := rfl
    have HX0 := Lib.hid hx0; clear hx0
    clear hmin hSe hlen HS2 HLOW HM HB
    have HM := Lib.hid (fun W => match_all W (xsB N) lv (by rw [xsB_size]; omega) hl)
    go_wp2_with fail
    go_loopw [10, 54] (fun o t wr => ∃ i : Nat, i ≤ N ∧ t = .int .u64 i ∧ o = .string (xsB i) ∧ Below w.heap.size w wr) (fun _ t _ => N - (intOf t).toNat)
    case atStart => exact ⟨0, Nat.zero_le _, rfl, rfl, hbc⟩
    case round =>
      obtain ⟨i, hi, rfl, rfl, hbr⟩ := hrel
      by_cases hlt : i < N
      · have hxi := xsB_size i
        go_wp2_with fail
        go_roundw
        case rel => exact ⟨i + 1, by omega, by go_num, by rw [HXS.out], hbr⟩
        case measure => simp [intOf]; omega
      · obtain rfl : i = N := by omega
        clear hlt
        go_wp2_with fail
        refine (HM.out _).mono ?_
        rintro e w5 ⟨v, ts2, rfl, ⟨A5, c5, rfl, hc5, hm5, hs5⟩, hb5, hok5⟩
        have hbw5 := hbr.trans (hb5.mono hbr.size)
        have HE := Lib.hid (refExpand_back w5 A5 c5 ts2 (xsB i) hc5 hm5 hs5 hok5.tin hok5.exp)
        have hxs := xsB_size i
        have hone : 0 < lv → 2 * ts2.length ≤ i + 3 := fun h => by
          have := hok5.one (by omega) (xsB_alike i)
          omega
        have hln : ts2.length ≤ i := by have := hok5.len; omega
        unfold maxLen at hm5
        clear hok5 hs5
        generalize xsB i = X at *
        have hxx : (X.toList == X.toList) = true := by simp
        go_wp2_with fail
        refine HE.out.mono ?_
        rintro e w6 ⟨rfl, hb6⟩
        have hbw6 := hbw5.trans (hb6.mono hbw5.size)
        by_cases h0 : lv ≤ 0
        · go_wp2_with fail
          refine (lz_lives _).mono ?_
          rintro e w7 ⟨rfl, hb7⟩
          go_wp2_with fail
          go_ret
          exact ⟨rfl, hbw6.trans (hb7.mono hbw6.size)⟩
        · have h2 := hone (by omega)
          have h2I : 2 * (ts2.length : Int) ≤ (i : Int) + 4 := by omega
          have hXI : (X.size : Int) = i := by omega
          go_wp2_with fail
          refine (lz_lives _).mono ?_
          rintro e w7 ⟨rfl, hb7⟩
          go_wp2_with fail
          go_ret
          exact ⟨rfl, hbw6.trans (hb7.mono hbw6.size)⟩
set_option maxRecDepth 100000 in
theorem lzBack_walk : Walks 11 Try.f11 := by
  intro H enc W base args ds ps hval hA hlt hsz
  rw [Try.params11] at hA hval
  obtain ⟨v0, v1, v2, d0, d1, d2, p0, p1, p2, rfl, rfl, rfl, h0, h1, h2⟩ := trodAll_three hA
  obtain ⟨s, rfl, rfl, rfl, hs⟩ := open_string Try.underlying9 (hval 0 9 v0 rfl rfl) h0
  obtain ⟨a, rfl, rfl, rfl, wa⟩ := open_int Try.underlying3 (hval 1 3 v1 rfl rfl) h1
  obtain ⟨b, rfl, rfl, rfl, wb⟩ := open_int Try.underlying65 (hval 2 65 v2 rfl rfl) h2
  exact lzBack_main W s a b hs (by have := bounds_i64 wa; omega) (by have := bounds_u64 wb; omega)
end Go.Proofs.Ythmlfeaoaanmoaa
