/- Several texts, joined for the limit of sixty files; each one opens with its own comment. -/
import Derived.Test.YtlogdionhgabdaaDoorJoin38
import Derived.Test.YtlogdionhgabdaaDoorJoin5
/- The contract of name.part. -/
set_option linter.unusedVariables false
set_option linter.unusedSimpArgs false
namespace Go.Proofs.YtlogdionhgabdaaDoor
open Go Go.RowKit
open Sw
theorem all_step (s : ByteArray) (i : Nat) (h : i < s.size) (hp : (s.data.toList.take i).all okB = true) (hb : okB s[i] = true) : (s.data.toList.take (i + 1)).all okB = true := by
  rw [List.take_succ_eq_append_getElem (by simpa using h), List.all_append, hp]
  simp
  exact hb
theorem str_eq_iff (s : ByteArray) (l : List UInt8) : (s.toList == l) = decide (s.data.toList = l) := by
  rw [ByteArray.toList_eq]
  by_cases h : s.data.toList = l
  · rw [decide_eq_true h, h]; simp
  · rw [decide_eq_false h, beq_eq_false_iff_ne]; exact h
set_option maxRecDepth 100000 in
set_option maxHeartbeats 4000000 in
theorem part_any (w : World) (s : ByteArray) (hs : s.size ≤ 1000000) :
    Calls Tryd.prog 45 #[.string s] w fun e w' => e = .returned (.bool (partL s.data.toList)) ∧ w = w' := by
  have HL := Lib.hid (letters_any w s hs)
  obtain ⟨U, hU⟩ : ∃ U, partL s.data.toList = U := ⟨_, rfl⟩
  have HP := Lib.hid (show partL s.data.toList = (s.data.toList.all okB && decide (1 ≤ s.data.toList.length ∧ s.data.toList.length ≤ 60) && decide (s.data.toList ≠ [46]) && decide (s.data.toList ≠ [46, 46]) && utfD 0 0 0 s.data.toList) from rfl)
  rw [hU] at HP ⊢
  have HU := Lib.hid hU; clear hU
  go_enter Tryd.func45, Tryd.ntmps45
  go_wp2_with fail
  go_loopw [2, 3, 4, 7] (fun r _ _ iv wr => ∃ i : Nat, i ≤ s.size ∧ r = .bool false ∧ iv = .int .i64 i ∧ (s.data.toList.take i).all okB = true ∧ w = wr) (fun _ _ _ iv _ => s.size - (intOf iv).toNat)
  case atStart => exact ⟨0, Nat.zero_le _, rfl, rfl, by simp, rfl⟩
  case round =>
    obtain ⟨i, hi, rfl, rfl, hall, rfl⟩ := hrel
    by_cases hlt : i < s.size
    · have hok : okB s[i] = !(decide (s[i].toNat < 32) || decide (s[i].toNat = 127) || decide (s[i].toNat = 47) || decide (s[i].toNat = 92) || decide (s[i].toNat = 58)) := rfl
      have hstep := all_step s i hlt hall
      have hbad := fun h => partL_bad (l := s.data.toList) (i := i) (by simpa using hlt) h
      have hel : s.data.toList[i]'(by simpa using hlt) = s[i] := rfl
      rw [hel] at hbad
      generalize okB s[i] = ok at *
      have hc6 : s[i].toNat < 256 := s[i].toNat_lt
      generalize hx : s[i].toNat = x at *
      have hxI : ((s[i].toNat : Nat) : Int) = x := by rw [hx]
      clear hx hel
      have HOK := Lib.hid hok; clear hok
      have HST := Lib.hid hstep; clear hstep hall
      have HBD := Lib.hid hbad; clear hbad
      go_upto_region 5 with fail
      go_cut [13] from 14 to 31 (fun v wx => v = .bool (!ok) ∧ wx = w)
      case first =>
        by_cases c1 : x < 32
        · have HV := Lib.hid (show ok = false by rw [HOK.out, decide_eq_true c1]; rfl)
          have t1 : (x : Int) < 32 := by omega
          clear c1
          go_wp2_with fail
          go_meet
          case rel => exact ⟨by rw [HV.out]; first | done | rfl, rfl⟩
        · skip
          by_cases c2 : x = 127
          · have HV := Lib.hid (show ok = false by rw [HOK.out, decide_eq_false c1, decide_eq_true c2]; rfl)
            have t1 : ¬ (x : Int) < 32 := by omega
            have e1 : ((x : Int) == 127) = true := by rw [beq_iff_eq]; omega
            clear c1 c2
            go_wp2_with fail
            go_meet
            case rel => exact ⟨by rw [HV.out]; first | done | rfl, rfl⟩
          · skip
            by_cases c3 : x = 47
            · have HV := Lib.hid (show ok = false by rw [HOK.out, decide_eq_false c1, decide_eq_false c2, decide_eq_true c3]; rfl)
              have t1 : ¬ (x : Int) < 32 := by omega
              have e1 : ((x : Int) == 127) = false := by rw [beq_eq_false_iff_ne]; omega
              have e2 : ((x : Int) == 47) = true := by rw [beq_iff_eq]; omega
              clear c1 c2 c3
              go_wp2_with fail
              go_meet
              case rel => exact ⟨by rw [HV.out]; first | done | rfl, rfl⟩
            · skip
              by_cases c4 : x = 92
              · have HV := Lib.hid (show ok = false by rw [HOK.out, decide_eq_false c1, decide_eq_false c2, decide_eq_false c3, decide_eq_true c4]; rfl)
                have t1 : ¬ (x : Int) < 32 := by omega
                have e1 : ((x : Int) == 127) = false := by rw [beq_eq_false_iff_ne]; omega
                have e2 : ((x : Int) == 47) = false := by rw [beq_eq_false_iff_ne]; omega
                have e3 : ((x : Int) == 92) = true := by rw [beq_iff_eq]; omega
                clear c1 c2 c3 c4
                go_wp2_with fail
                go_meet
                case rel => exact ⟨by rw [HV.out]; first | done | rfl, rfl⟩
              · skip
                by_cases c5 : x = 58
                · have HV := Lib.hid (show ok = false by rw [HOK.out, decide_eq_false c1, decide_eq_false c2, decide_eq_false c3, decide_eq_false c4, decide_eq_true c5]; rfl)
                  have t1 : ¬ (x : Int) < 32 := by omega
                  have e1 : ((x : Int) == 127) = false := by rw [beq_eq_false_iff_ne]; omega
                  have e2 : ((x : Int) == 47) = false := by rw [beq_eq_false_iff_ne]; omega
                  have e3 : ((x : Int) == 92) = false := by rw [beq_eq_false_iff_ne]; omega
                  have e4 : ((x : Int) == 58) = true := by rw [beq_iff_eq]; omega
                  clear c1 c2 c3 c4 c5
                  go_wp2_with fail
                  go_meet
                  case rel => exact ⟨by rw [HV.out]; first | done | rfl, rfl⟩
                · have HV := Lib.hid (show ok = true by rw [HOK.out, decide_eq_false c1, decide_eq_false c2, decide_eq_false c3, decide_eq_false c4, decide_eq_false c5]; rfl)
                  have t1 : ¬ (x : Int) < 32 := by omega
                  have e1 : ((x : Int) == 127) = false := by rw [beq_eq_false_iff_ne]; omega
                  have e2 : ((x : Int) == 47) = false := by rw [beq_eq_false_iff_ne]; omega
                  have e3 : ((x : Int) == 92) = false := by rw [beq_eq_false_iff_ne]; omega
                  have e4 : ((x : Int) == 58) = false := by rw [beq_eq_false_iff_ne]; omega
                  clear c1 c2 c3 c4 c5
                  go_wp2_with fail
                  go_meet
                  case rel => exact ⟨by rw [HV.out]; first | done | rfl, rfl⟩
      case rest =>
        obtain ⟨rfl, rfl⟩ := hcut
        clear HOK
        cases ok with
        | false =>
          have HF := Lib.hid (show U = false by rw [← HU.out]; exact HBD.out rfl)
          go_wp2_with fail
          go_ret
          exact ⟨by rw [HF.out]; first | done | rfl, rfl⟩
        | true =>
          have HN := Lib.hid (HST.out rfl)
          go_wp2_with fail
          go_roundw
          case rel => exact ⟨i + 1, by omega, rfl, by go_num, HN.out, by simp⟩
          case measure => simp [intOf]; omega
    · obtain rfl : i = s.size := by omega
      rw [List.take_of_length_le (by simp)] at hall
      have hP := HP.out
      have hlen : s.data.toList.length = s.size := by simp
      have hs1 := str_eq_iff s [46]
      have hs2 := str_eq_iff s [46, 46]
      rw [hall, hlen, Bool.true_and] at hP
      clear hall HP HU hlen hlt
      generalize s.data.toList = L at *
      generalize utfD 0 0 0 L = V at *
      have HP := Lib.hid hP; clear hP
      by_cases c1 : (1 : Int) ≤ s.size
      · by_cases c2 : (s.size : Int) ≤ 60
        · by_cases c3 : L = [46]
          · have hb : (s.toList == [46]) = true := by rw [hs1, decide_eq_true c3]
            have HF := Lib.hid (show U = false by rw [HP.out, decide_eq_true (show 1 ≤ s.size ∧ s.size ≤ 60 by omega), decide_eq_false (fun h => h c3)]; rfl)
            clear hs1 hs2 c3
            go_wp2_with fail
            go_ret
            exact ⟨by rw [HF.out]; first | done | rfl, rfl⟩
          · have hb : (s.toList == [46]) = false := by rw [hs1, decide_eq_false c3]
            by_cases c4 : L = [46, 46]
            · have hb2 : (s.toList == [46, 46]) = true := by rw [hs2, decide_eq_true c4]
              have HF := Lib.hid (show U = false by rw [HP.out, decide_eq_true (show 1 ≤ s.size ∧ s.size ≤ 60 by omega), decide_eq_true c3, decide_eq_false (fun h => h c4)]; rfl)
              clear hs1 hs2 c3 c4
              go_wp2_with fail
              go_ret
              exact ⟨by rw [HF.out]; first | done | rfl, rfl⟩
            · have hb2 : (s.toList == [46, 46]) = false := by rw [hs2, decide_eq_false c4]
              have HF := Lib.hid (show U = V by rw [HP.out, decide_eq_true (show 1 ≤ s.size ∧ s.size ≤ 60 by omega), decide_eq_true c3, decide_eq_true c4]; rfl)
              clear hs1 hs2 c3 c4
              go_wp2_with fail
              refine HL.out.mono ?_
              rintro e w1 ⟨rfl, rfl⟩
              go_wp2_with fail
              go_ret
              exact ⟨by rw [HF.out]; first | done | rfl, rfl⟩
        · have HF := Lib.hid (show U = false by rw [HP.out, decide_eq_false (show ¬ (1 ≤ s.size ∧ s.size ≤ 60) by omega)]; rfl)
          clear hs1 hs2
          go_wp2_with fail
          go_ret
          exact ⟨by rw [HF.out]; first | done | rfl, rfl⟩
      · have HF := Lib.hid (show U = false by rw [HP.out, decide_eq_false (show ¬ (1 ≤ s.size ∧ s.size ≤ 60) by omega)]; rfl)
        clear hs1 hs2
        go_wp2_with fail
        go_ret
        exact ⟨by rw [HF.out]; first | done | rfl, rfl⟩
end Go.Proofs.YtlogdionhgabdaaDoor
/- Contracts of the reference's utf8, Part and Split. -/
set_option linter.unusedVariables false
set_option linter.unusedSimpArgs false
namespace Go.Proofs.YtlogdionhgabdaaDoor
open Go Go.RowKit
open Sw
end Go.Proofs.YtlogdionhgabdaaDoor
