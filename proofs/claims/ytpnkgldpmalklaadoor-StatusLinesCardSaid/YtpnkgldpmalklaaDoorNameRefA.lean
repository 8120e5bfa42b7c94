/- Contracts of the reference's utf8, Part and Split. -/
import Derived.Test.YtpnkgldpmalklaaDoorNameB
import Derived.Test.YtpnkgldpmalklaaDoorGrow
set_option linter.unusedVariables false
set_option linter.unusedSimpArgs false
namespace Go.Proofs.YtpnkgldpmalklaaDoor
open Go Go.RowKit
open Sw
set_option maxRecDepth 100000 in
set_option maxHeartbeats 4000000 in
theorem refUtf_any (w : World) (s : ByteArray) (hs : s.size ≤ 1000000) :
    Calls Tryd.prog 22 #[.string s] w fun e w' => e = .returned (.bool (utfD 0 0 0 s.data.toList)) ∧ w = w' := by
  obtain ⟨U, hU⟩ : ∃ U, utfD 0 0 0 s.data.toList = U := ⟨_, rfl⟩
  rw [hU]
  go_enter Tryd.func22, Tryd.ntmps22
  go_wp2_with fail
  go_loopw [2, 3, 4, 5, 6, 7, 8, 9] (fun r iv _ _ _ _ _ _ wr => ∃ i : Nat, i ≤ s.size ∧ r = .bool false ∧ iv = .int .i64 i ∧ utfD 0 0 0 (s.data.toList.drop i) = U ∧ w = wr) (fun _ iv _ _ _ _ _ _ _ => s.size - (intOf iv).toNat)
  case atStart => exact ⟨0, Nat.zero_le _, rfl, rfl, hU, rfl⟩
  case round =>
    obtain ⟨i, hi, rfl, rfl, hu, rfl⟩ := hrel
    by_cases hlt : i < s.size
    · rw [utfD_at0 s 0 0 i hlt] at hu
      have HU := Lib.hid hu; clear hu hU
      have hc6 : s[i].toNat < 256 := s[i].toNat_lt
      generalize hc : s[i].toNat = c at *
      have hcI : ((s[i].toNat : Nat) : Int) = c := by rw [hc]
      clear hc
      go_upto_if 19 with fail
      go_cut [5, 6, 7] from 18 to 45 (fun n lo hi wx => n = .int .i64 (uN c : Nat) ∧ lo = .int .i64 (uLo c : Nat) ∧ hi = .int .i64 (uHi c : Nat) ∧ wx = w)
      case first =>
        have cases11 : (0 ≤ c ∧ c ≤ 127) ∨ (128 ≤ c ∧ c ≤ 193) ∨ (194 ≤ c ∧ c ≤ 223) ∨ (224 ≤ c ∧ c ≤ 224) ∨ (225 ≤ c ∧ c ≤ 236) ∨ (237 ≤ c ∧ c ≤ 237) ∨ (238 ≤ c ∧ c ≤ 239) ∨ (240 ≤ c ∧ c ≤ 240) ∨ (241 ≤ c ∧ c ≤ 243) ∨ (244 ≤ c ∧ c ≤ 244) ∨ (245 ≤ c ∧ c ≤ 255) := by omega
        rcases cases11 with ⟨r0, r1⟩ | ⟨r0, r1⟩ | ⟨r0, r1⟩ | ⟨r0, r1⟩ | ⟨r0, r1⟩ | ⟨r0, r1⟩ | ⟨r0, r1⟩ | ⟨r0, r1⟩ | ⟨r0, r1⟩ | ⟨r0, r1⟩ | ⟨r0, r1⟩
        · have q : uN c = 1 ∧ uLo c = 128 ∧ uHi c = 191 := by
            unfold uN uLo uHi
            refine ⟨?_, ?_, ?_⟩ <;> (repeat' split) <;> omega
          have t1 : (c : Int) < (128 : Int) := by omega
          have t2 : ¬ (194 : Int) ≤ (c : Int) := by omega
          have t3 : (c : Int) ≤ (223 : Int) := by omega
          have t4 : ¬ (224 : Int) ≤ (c : Int) := by omega
          have t5 : (c : Int) ≤ (239 : Int) := by omega
          have t6 : ¬ (240 : Int) ≤ (c : Int) := by omega
          have t7 : (c : Int) ≤ (244 : Int) := by omega
          have e224 : ((c : Int) == 224) = false := by rw [beq_eq_false_iff_ne]; omega
          have e237 : ((c : Int) == 237) = false := by rw [beq_eq_false_iff_ne]; omega
          have e240 : ((c : Int) == 240) = false := by rw [beq_eq_false_iff_ne]; omega
          have e244 : ((c : Int) == 244) = false := by rw [beq_eq_false_iff_ne]; omega
          have HQ := Lib.hid q; clear q r0 r1
          go_wp2_with fail
          go_meet
          case rel => exact ⟨by rw [HQ.out.1]; rfl, by rw [HQ.out.2.1]; rfl, by rw [HQ.out.2.2]; rfl, rfl⟩
        · have q : uN c = 0 ∧ uLo c = 128 ∧ uHi c = 191 := by
            unfold uN uLo uHi
            refine ⟨?_, ?_, ?_⟩ <;> (repeat' split) <;> omega
          have t1 : ¬ (c : Int) < (128 : Int) := by omega
          have t2 : ¬ (194 : Int) ≤ (c : Int) := by omega
          have t3 : (c : Int) ≤ (223 : Int) := by omega
          have t4 : ¬ (224 : Int) ≤ (c : Int) := by omega
          have t5 : (c : Int) ≤ (239 : Int) := by omega
          have t6 : ¬ (240 : Int) ≤ (c : Int) := by omega
          have t7 : (c : Int) ≤ (244 : Int) := by omega
          have e224 : ((c : Int) == 224) = false := by rw [beq_eq_false_iff_ne]; omega
          have e237 : ((c : Int) == 237) = false := by rw [beq_eq_false_iff_ne]; omega
          have e240 : ((c : Int) == 240) = false := by rw [beq_eq_false_iff_ne]; omega
          have e244 : ((c : Int) == 244) = false := by rw [beq_eq_false_iff_ne]; omega
          have HQ := Lib.hid q; clear q r0 r1
          go_wp2_with fail
          go_meet
          case rel => exact ⟨by rw [HQ.out.1]; rfl, by rw [HQ.out.2.1]; rfl, by rw [HQ.out.2.2]; rfl, rfl⟩
        · have q : uN c = 2 ∧ uLo c = 128 ∧ uHi c = 191 := by
            unfold uN uLo uHi
            refine ⟨?_, ?_, ?_⟩ <;> (repeat' split) <;> omega
          have t1 : ¬ (c : Int) < (128 : Int) := by omega
          have t2 : (194 : Int) ≤ (c : Int) := by omega
          have t3 : (c : Int) ≤ (223 : Int) := by omega
          have t4 : ¬ (224 : Int) ≤ (c : Int) := by omega
          have t5 : (c : Int) ≤ (239 : Int) := by omega
          have t6 : ¬ (240 : Int) ≤ (c : Int) := by omega
          have t7 : (c : Int) ≤ (244 : Int) := by omega
          have e224 : ((c : Int) == 224) = false := by rw [beq_eq_false_iff_ne]; omega
          have e237 : ((c : Int) == 237) = false := by rw [beq_eq_false_iff_ne]; omega
          have e240 : ((c : Int) == 240) = false := by rw [beq_eq_false_iff_ne]; omega
          have e244 : ((c : Int) == 244) = false := by rw [beq_eq_false_iff_ne]; omega
          have HQ := Lib.hid q; clear q r0 r1
          go_wp2_with fail
          go_meet
          case rel => exact ⟨by rw [HQ.out.1]; rfl, by rw [HQ.out.2.1]; rfl, by rw [HQ.out.2.2]; rfl, rfl⟩
        · have q : uN c = 3 ∧ uLo c = 160 ∧ uHi c = 191 := by
            unfold uN uLo uHi
            refine ⟨?_, ?_, ?_⟩ <;> (repeat' split) <;> omega
          have t1 : ¬ (c : Int) < (128 : Int) := by omega
          have t2 : (194 : Int) ≤ (c : Int) := by omega
          have t3 : ¬ (c : Int) ≤ (223 : Int) := by omega
          have t4 : (224 : Int) ≤ (c : Int) := by omega
          have t5 : (c : Int) ≤ (239 : Int) := by omega
          have t6 : ¬ (240 : Int) ≤ (c : Int) := by omega
          have t7 : (c : Int) ≤ (244 : Int) := by omega
          have e224 : ((c : Int) == 224) = true := by rw [beq_iff_eq]; omega
          have e237 : ((c : Int) == 237) = false := by rw [beq_eq_false_iff_ne]; omega
          have e240 : ((c : Int) == 240) = false := by rw [beq_eq_false_iff_ne]; omega
          have e244 : ((c : Int) == 244) = false := by rw [beq_eq_false_iff_ne]; omega
          have HQ := Lib.hid q; clear q r0 r1
          go_wp2_with fail
          go_meet
          case rel => exact ⟨by rw [HQ.out.1]; rfl, by rw [HQ.out.2.1]; rfl, by rw [HQ.out.2.2]; rfl, rfl⟩
        · have q : uN c = 3 ∧ uLo c = 128 ∧ uHi c = 191 := by
            unfold uN uLo uHi
            refine ⟨?_, ?_, ?_⟩ <;> (repeat' split) <;> omega
          have t1 : ¬ (c : Int) < (128 : Int) := by omega
          have t2 : (194 : Int) ≤ (c : Int) := by omega
          have t3 : ¬ (c : Int) ≤ (223 : Int) := by omega
          have t4 : (224 : Int) ≤ (c : Int) := by omega
          have t5 : (c : Int) ≤ (239 : Int) := by omega
          have t6 : ¬ (240 : Int) ≤ (c : Int) := by omega
          have t7 : (c : Int) ≤ (244 : Int) := by omega
          have e224 : ((c : Int) == 224) = false := by rw [beq_eq_false_iff_ne]; omega
          have e237 : ((c : Int) == 237) = false := by rw [beq_eq_false_iff_ne]; omega
          have e240 : ((c : Int) == 240) = false := by rw [beq_eq_false_iff_ne]; omega
          have e244 : ((c : Int) == 244) = false := by rw [beq_eq_false_iff_ne]; omega
          have HQ := Lib.hid q; clear q r0 r1
          go_wp2_with fail
          go_meet
          case rel => exact ⟨by rw [HQ.out.1]; rfl, by rw [HQ.out.2.1]; rfl, by rw [HQ.out.2.2]; rfl, rfl⟩
        · have q : uN c = 3 ∧ uLo c = 128 ∧ uHi c = 159 := by
            unfold uN uLo uHi
            refine ⟨?_, ?_, ?_⟩ <;> (repeat' split) <;> omega
          have t1 : ¬ (c : Int) < (128 : Int) := by omega
          have t2 : (194 : Int) ≤ (c : Int) := by omega
          have t3 : ¬ (c : Int) ≤ (223 : Int) := by omega
          have t4 : (224 : Int) ≤ (c : Int) := by omega
          have t5 : (c : Int) ≤ (239 : Int) := by omega
          have t6 : ¬ (240 : Int) ≤ (c : Int) := by omega
          have t7 : (c : Int) ≤ (244 : Int) := by omega
          have e224 : ((c : Int) == 224) = false := by rw [beq_eq_false_iff_ne]; omega
          have e237 : ((c : Int) == 237) = true := by rw [beq_iff_eq]; omega
          have e240 : ((c : Int) == 240) = false := by rw [beq_eq_false_iff_ne]; omega
          have e244 : ((c : Int) == 244) = false := by rw [beq_eq_false_iff_ne]; omega
          have HQ := Lib.hid q; clear q r0 r1
          go_wp2_with fail
          go_meet
          case rel => exact ⟨by rw [HQ.out.1]; rfl, by rw [HQ.out.2.1]; rfl, by rw [HQ.out.2.2]; rfl, rfl⟩
        · have q : uN c = 3 ∧ uLo c = 128 ∧ uHi c = 191 := by
            unfold uN uLo uHi
            refine ⟨?_, ?_, ?_⟩ <;> (repeat' split) <;> omega
          have t1 : ¬ (c : Int) < (128 : Int) := by omega
          have t2 : (194 : Int) ≤ (c : Int) := by omega
          have t3 : ¬ (c : Int) ≤ (223 : Int) := by omega
          have t4 : (224 : Int) ≤ (c : Int) := by omega
          have t5 : (c : Int) ≤ (239 : Int) := by omega
          have t6 : ¬ (240 : Int) ≤ (c : Int) := by omega
          have t7 : (c : Int) ≤ (244 : Int) := by omega
          have e224 : ((c : Int) == 224) = false := by rw [beq_eq_false_iff_ne]; omega
          have e237 : ((c : Int) == 237) = false := by rw [beq_eq_false_iff_ne]; omega
          have e240 : ((c : Int) == 240) = false := by rw [beq_eq_false_iff_ne]; omega
          have e244 : ((c : Int) == 244) = false := by rw [beq_eq_false_iff_ne]; omega
          have HQ := Lib.hid q; clear q r0 r1
          go_wp2_with fail
          go_meet
          case rel => exact ⟨by rw [HQ.out.1]; rfl, by rw [HQ.out.2.1]; rfl, by rw [HQ.out.2.2]; rfl, rfl⟩
        · have q : uN c = 4 ∧ uLo c = 144 ∧ uHi c = 191 := by
            unfold uN uLo uHi
            refine ⟨?_, ?_, ?_⟩ <;> (repeat' split) <;> omega
          have t1 : ¬ (c : Int) < (128 : Int) := by omega
          have t2 : (194 : Int) ≤ (c : Int) := by omega
          have t3 : ¬ (c : Int) ≤ (223 : Int) := by omega
          have t4 : (224 : Int) ≤ (c : Int) := by omega
          have t5 : ¬ (c : Int) ≤ (239 : Int) := by omega
          have t6 : (240 : Int) ≤ (c : Int) := by omega
          have t7 : (c : Int) ≤ (244 : Int) := by omega
          have e224 : ((c : Int) == 224) = false := by rw [beq_eq_false_iff_ne]; omega
          have e237 : ((c : Int) == 237) = false := by rw [beq_eq_false_iff_ne]; omega
          have e240 : ((c : Int) == 240) = true := by rw [beq_iff_eq]; omega
          have e244 : ((c : Int) == 244) = false := by rw [beq_eq_false_iff_ne]; omega
          have HQ := Lib.hid q; clear q r0 r1
          go_wp2_with fail
          go_meet
          case rel => exact ⟨by rw [HQ.out.1]; rfl, by rw [HQ.out.2.1]; rfl, by rw [HQ.out.2.2]; rfl, rfl⟩
        · have q : uN c = 4 ∧ uLo c = 128 ∧ uHi c = 191 := by
            unfold uN uLo uHi
            refine ⟨?_, ?_, ?_⟩ <;> (repeat' split) <;> omega
          have t1 : ¬ (c : Int) < (128 : Int) := by omega
          have t2 : (194 : Int) ≤ (c : Int) := by omega
          have t3 : ¬ (c : Int) ≤ (223 : Int) := by omega
          have t4 : (224 : Int) ≤ (c : Int) := by omega
          have t5 : ¬ (c : Int) ≤ (239 : Int) := by omega
          have t6 : (240 : Int) ≤ (c : Int) := by omega
          have t7 : (c : Int) ≤ (244 : Int) := by omega
          have e224 : ((c : Int) == 224) = false := by rw [beq_eq_false_iff_ne]; omega
          have e237 : ((c : Int) == 237) = false := by rw [beq_eq_false_iff_ne]; omega
          have e240 : ((c : Int) == 240) = false := by rw [beq_eq_false_iff_ne]; omega
          have e244 : ((c : Int) == 244) = false := by rw [beq_eq_false_iff_ne]; omega
          have HQ := Lib.hid q; clear q r0 r1
          go_wp2_with fail
          go_meet
          case rel => exact ⟨by rw [HQ.out.1]; rfl, by rw [HQ.out.2.1]; rfl, by rw [HQ.out.2.2]; rfl, rfl⟩
        · have q : uN c = 4 ∧ uLo c = 128 ∧ uHi c = 143 := by
            unfold uN uLo uHi
            refine ⟨?_, ?_, ?_⟩ <;> (repeat' split) <;> omega
          have t1 : ¬ (c : Int) < (128 : Int) := by omega
          have t2 : (194 : Int) ≤ (c : Int) := by omega
          have t3 : ¬ (c : Int) ≤ (223 : Int) := by omega
          have t4 : (224 : Int) ≤ (c : Int) := by omega
          have t5 : ¬ (c : Int) ≤ (239 : Int) := by omega
          have t6 : (240 : Int) ≤ (c : Int) := by omega
          have t7 : (c : Int) ≤ (244 : Int) := by omega
          have e224 : ((c : Int) == 224) = false := by rw [beq_eq_false_iff_ne]; omega
          have e237 : ((c : Int) == 237) = false := by rw [beq_eq_false_iff_ne]; omega
          have e240 : ((c : Int) == 240) = false := by rw [beq_eq_false_iff_ne]; omega
          have e244 : ((c : Int) == 244) = true := by rw [beq_iff_eq]; omega
          have HQ := Lib.hid q; clear q r0 r1
          go_wp2_with fail
          go_meet
          case rel => exact ⟨by rw [HQ.out.1]; rfl, by rw [HQ.out.2.1]; rfl, by rw [HQ.out.2.2]; rfl, rfl⟩
        · have q : uN c = 0 ∧ uLo c = 128 ∧ uHi c = 191 := by
            unfold uN uLo uHi
            refine ⟨?_, ?_, ?_⟩ <;> (repeat' split) <;> omega
          have t1 : ¬ (c : Int) < (128 : Int) := by omega
          have t2 : (194 : Int) ≤ (c : Int) := by omega
          have t3 : ¬ (c : Int) ≤ (223 : Int) := by omega
          have t4 : (224 : Int) ≤ (c : Int) := by omega
          have t5 : ¬ (c : Int) ≤ (239 : Int) := by omega
          have t6 : (240 : Int) ≤ (c : Int) := by omega
          have t7 : ¬ (c : Int) ≤ (244 : Int) := by omega
          have e224 : ((c : Int) == 224) = false := by rw [beq_eq_false_iff_ne]; omega
          have e237 : ((c : Int) == 237) = false := by rw [beq_eq_false_iff_ne]; omega
          have e240 : ((c : Int) == 240) = false := by rw [beq_eq_false_iff_ne]; omega
          have e244 : ((c : Int) == 244) = false := by rw [beq_eq_false_iff_ne]; omega
          have HQ := Lib.hid q; clear q r0 r1
          go_wp2_with fail
          go_meet
          case rel => exact ⟨by rw [HQ.out.1]; rfl, by rw [HQ.out.2.1]; rfl, by rw [HQ.out.2.2]; rfl, rfl⟩
      case rest =>
        obtain ⟨rfl, rfl, rfl, rfl⟩ := hcut
        have hn4 := uN_le c
        have hlo := uLo_le c
        generalize uN c = N at *
        generalize uLo c = a at *
        generalize uHi c = b at *
        by_cases hN0 : N = 0
        · subst hN0
          have HF := Lib.hid (show U = false by rw [← HU.out, if_pos rfl])
          go_wp2_with fail
          go_ret
          exact ⟨by rw [HF.out]; first | done | rfl, by simp⟩
        have hNb : ((N : Int) == 0) = false := by rw [beq_eq_false_iff_ne]; omega
        by_cases hNl : s.size < i + N
        · have HF := Lib.hid (show U = false by rw [← HU.out, if_neg hN0, utfD_at_short s _ _ _ _ (by omega) (by omega)])
          have hNlI : (s.size : Int) < (i : Int) + N := by omega
          go_wp2_with fail
          go_ret
          exact ⟨by rw [HF.out]; first | done | rfl, by simp⟩
        have hNlI : ¬ (s.size : Int) < (i : Int) + N := by omega
        have HG := Lib.hid (show utfD (N - 1) a b (s.data.toList.drop (i + 1)) = U by rw [← HU.out, if_neg hN0])
        clear HU
        go_wp2_with fail
        go_loopw [2, 6, 7, 8, 9] (fun r lo hi kv _ wr => ∃ k a b : Nat, 1 ≤ k ∧ k ≤ N ∧ r = .bool false ∧ kv = .int .i64 k ∧ lo = .int .i64 a ∧ hi = .int .i64 b ∧ utfD (N - k) a b (s.data.toList.drop (i + k)) = U ∧ wc = wr) (fun _ _ _ kv _ _ => N - (intOf kv).toNat)
        case atStart => exact ⟨1, a, b, Nat.le_refl _, by omega, rfl, rfl, rfl, rfl, HG.out, by simp⟩
        case round =>
          obtain ⟨k, a, b, hk1, hkN, rfl, rfl, rfl, rfl, hu, rfl⟩ := hrel
          by_cases hkn : k < N
          · rw [show N - k = (N - (k + 1)) + 1 by omega, utfD_at s _ a b (i + k) (by omega)] at hu
            have HU := Lib.hid hu; clear hu HG
            have hix : (i : Int) + k < s.size := by omega
            have hik : ((i : Int) + k).toNat = i + k := by omega
            have hc1 : s[i + k].toNat < 256 := s[i + k].toNat_lt
            generalize hx1 : s[i + k].toNat = x1 at *
            have hx1I : ((s[i + k].toNat : Nat) : Int) = x1 := by rw [hx1]
            clear hx1
            by_cases hA : x1 < a
            · have HF := Lib.hid (show U = false by rw [← HU.out, if_neg (by omega)])
              go_wp2_with fail
              go_ret
              exact ⟨by rw [HF.out]; first | done | rfl, by simp⟩
            · by_cases hB : b < x1
              · have HF := Lib.hid (show U = false by rw [← HU.out, if_neg (by omega)])
                go_wp2_with fail
                go_ret
                exact ⟨by rw [HF.out]; first | done | rfl, by simp⟩
              · have HF := Lib.hid (show utfD (N - (k + 1)) 128 191 (s.data.toList.drop (i + (k + 1))) = U by rw [← HU.out, if_pos (by omega)]; rfl)
                go_wp2_with fail
                go_roundw
                case rel => exact ⟨k + 1, 128, 191, by omega, by omega, rfl, by go_num, rfl, rfl, HF.out, by simp⟩
                case measure => simp [intOf]; omega
          · obtain rfl : k = N := by omega
            rw [Nat.sub_self] at hu
            have HV := Lib.hid (show utfD 0 0 0 (s.data.toList.drop (i + k)) = U from (utfD_zero _ _ _).symm.trans hu)
            clear hu HG
            go_wp2_with fail
            go_roundw
            case rel => exact ⟨i + k, by omega, rfl, by go_num, HV.out, by simp⟩
            case measure => simp [intOf]; omega
    · obtain rfl : i = s.size := by omega
      rw [utfD_at_end] at hu
      have HU := Lib.hid hu.symm; clear hu hlt
      go_wp2_with fail
      go_ret
      exact ⟨by rw [HU.out]; first | done | rfl, rfl⟩
end Go.Proofs.YtpnkgldpmalklaaDoor
