/- Contracts of the reference's Part and Split. -/
import Derived.Test.YtpnkgldpmalklaaDoorNameRefA
import Derived.Test.YtpnkgldpmalklaaDoorSplitSeq
set_option linter.unusedVariables false
set_option linter.unusedSimpArgs false
namespace Go.Proofs.YtpnkgldpmalklaaDoor
open Go Go.RowKit
open Sw
set_option maxRecDepth 100000 in
set_option maxHeartbeats 4000000 in
theorem refPart_any (w : World) (s : ByteArray) (hs : s.size ≤ 1000000) :
    Calls Tryd.prog 17 #[.string s] w fun e w' => e = .returned (.bool (partL s.data.toList)) ∧ w = w' := by
  have HL := Lib.hid (refUtf_any w s hs)
  obtain ⟨U, hU⟩ : ∃ U, partL s.data.toList = U := ⟨_, rfl⟩
  have HP := Lib.hid (show partL s.data.toList = (s.data.toList.all okB && decide (1 ≤ s.data.toList.length ∧ s.data.toList.length ≤ 60) && decide (s.data.toList ≠ [46]) && decide (s.data.toList ≠ [46, 46]) && utfD 0 0 0 s.data.toList) from rfl)
  rw [hU] at HP ⊢
  have HU := Lib.hid hU; clear hU
  go_enter Tryd.func17, Tryd.ntmps17
  go_wp2_with fail
  go_loopw [2, 3, 4] (fun r iv _ wr => ∃ i : Nat, i ≤ s.size ∧ r = .bool false ∧ iv = .int .i64 i ∧ (s.data.toList.take i).all okB = true ∧ w = wr) (fun _ iv _ _ => s.size - (intOf iv).toNat)
  case atStart => exact ⟨0, Nat.zero_le _, rfl, rfl, by simp, rfl⟩
  case round =>
    obtain ⟨i, hi, rfl, rfl, hall, rfl⟩ := hrel
    by_cases hlt : i < s.size
    · have hok : okB s[i] = !(decide (s[i].toNat < 32) || decide (s[i].toNat = 127) || decide (s[i].toNat = 47) || decide (s[i].toNat = 92) || decide (s[i].toNat = 58)) := rfl
      have hstep := all_step s i hlt hall
      have hbad := fun h => partL_bad (l := s.data.toList) (i := i) (by simpa using hlt) h
      have hel : s.data.toList[i]'(by simpa using hlt) = s[i] := rfl
      rw [hel] at hbad
      generalize okB s[i] = ok at *
      have hc6 : s[i].toNat < 256 := s[i].toNat_lt
      generalize hx : s[i].toNat = x at *
      have hxI : ((s[i].toNat : Nat) : Int) = x := by rw [hx]
      clear hx hel
      have HOK := Lib.hid hok; clear hok
      have HST := Lib.hid hstep; clear hstep hall
      have HBD := Lib.hid hbad; clear hbad
      go_upto_region 5 with fail
      go_cut [31] from 14 to 31 (fun v wx => v = .bool (!ok) ∧ wx = w)
      case first =>
        by_cases c1 : x < 32
        · have HV := Lib.hid (show ok = false by rw [HOK.out, decide_eq_true c1]; rfl)
          have t1 : (x : Int) < 32 := by omega
          clear c1
          go_wp2_with fail
          go_meet
          case rel => exact ⟨by rw [HV.out]; first | done | rfl, rfl⟩
        · skip
          by_cases c2 : x = 127
          · have HV := Lib.hid (show ok = false by rw [HOK.out, decide_eq_false c1, decide_eq_true c2]; rfl)
            have t1 : ¬ (x : Int) < 32 := by omega
            have e1 : ((x : Int) == 127) = true := by rw [beq_iff_eq]; omega
            clear c1 c2
            go_wp2_with fail
            go_meet
            case rel => exact ⟨by rw [HV.out]; first | done | rfl, rfl⟩
          · skip
            by_cases c3 : x = 47
            · have HV := Lib.hid (show ok = false by rw [HOK.out, decide_eq_false c1, decide_eq_false c2, decide_eq_true c3]; rfl)
              have t1 : ¬ (x : Int) < 32 := by omega
              have e1 : ((x : Int) == 127) = false := by rw [beq_eq_false_iff_ne]; omega
              have e2 : ((x : Int) == 47) = true := by rw [beq_iff_eq]; omega
              clear c1 c2 c3
              go_wp2_with fail
              go_meet
              case rel => exact ⟨by rw [HV.out]; first | done | rfl, rfl⟩
            · skip
              by_cases c4 : x = 92
              · have HV := Lib.hid (show ok = false by rw [HOK.out, decide_eq_false c1, decide_eq_false c2, decide_eq_false c3, decide_eq_true c4]; rfl)
                have t1 : ¬ (x : Int) < 32 := by omega
                have e1 : ((x : Int) == 127) = false := by rw [beq_eq_false_iff_ne]; omega
                have e2 : ((x : Int) == 47) = false := by rw [beq_eq_false_iff_ne]; omega
                have e3 : ((x : Int) == 92) = true := by rw [beq_iff_eq]; omega
                clear c1 c2 c3 c4
                go_wp2_with fail
                go_meet
                case rel => exact ⟨by rw [HV.out]; first | done | rfl, rfl⟩
              · skip
                by_cases c5 : x = 58
                · have HV := Lib.hid (show ok = false by rw [HOK.out, decide_eq_false c1, decide_eq_false c2, decide_eq_false c3, decide_eq_false c4, decide_eq_true c5]; rfl)
                  have t1 : ¬ (x : Int) < 32 := by omega
                  have e1 : ((x : Int) == 127) = false := by rw [beq_eq_false_iff_ne]; omega
                  have e2 : ((x : Int) == 47) = false := by rw [beq_eq_false_iff_ne]; omega
                  have e3 : ((x : Int) == 92) = false := by rw [beq_eq_false_iff_ne]; omega
                  have e4 : ((x : Int) == 58) = true := by rw [beq_iff_eq]; omega
                  clear c1 c2 c3 c4 c5
                  go_wp2_with fail
                  go_meet
                  case rel => exact ⟨by rw [HV.out]; first | done | rfl, rfl⟩
                · have HV := Lib.hid (show ok = true by rw [HOK.out, decide_eq_false c1, decide_eq_false c2, decide_eq_false c3, decide_eq_false c4, decide_eq_false c5]; rfl)
                  have t1 : ¬ (x : Int) < 32 := by omega
                  have e1 : ((x : Int) == 127) = false := by rw [beq_eq_false_iff_ne]; omega
                  have e2 : ((x : Int) == 47) = false := by rw [beq_eq_false_iff_ne]; omega
                  have e3 : ((x : Int) == 92) = false := by rw [beq_eq_false_iff_ne]; omega
                  have e4 : ((x : Int) == 58) = false := by rw [beq_eq_false_iff_ne]; omega
                  clear c1 c2 c3 c4 c5
                  go_wp2_with fail
                  go_meet
                  case rel => exact ⟨by rw [HV.out]; first | done | rfl, rfl⟩
      case rest =>
        obtain ⟨rfl, rfl⟩ := hcut
        clear HOK
        cases ok with
        | false =>
          have HF := Lib.hid (show U = false by rw [← HU.out]; exact HBD.out rfl)
          go_wp2_with fail
          go_ret
          exact ⟨by rw [HF.out]; first | done | rfl, rfl⟩
        | true =>
          have HN := Lib.hid (HST.out rfl)
          go_wp2_with fail
          go_roundw
          case rel => exact ⟨i + 1, by omega, rfl, by go_num, HN.out, by simp⟩
          case measure => simp [intOf]; omega
    · obtain rfl : i = s.size := by omega
      rw [List.take_of_length_le (by simp)] at hall
      have hP := HP.out
      have hlen : s.data.toList.length = s.size := by simp
      have hs1 := str_eq_iff s [46]
      have hs2 := str_eq_iff s [46, 46]
      rw [hall, hlen, Bool.true_and] at hP
      clear hall HP HU hlen hlt
      generalize s.data.toList = L at *
      generalize utfD 0 0 0 L = V at *
      have HP := Lib.hid hP; clear hP
      by_cases c1 : (0 : Int) < s.size
      · by_cases c2 : (s.size : Int) ≤ 60
        · by_cases c3 : L = [46]
          · have hb : (s.toList == [46]) = true := by rw [hs1, decide_eq_true c3]
            have HF := Lib.hid (show U = false by rw [HP.out, decide_eq_true (show 1 ≤ s.size ∧ s.size ≤ 60 by omega), decide_eq_false (fun h => h c3)]; rfl)
            clear hs1 hs2 c3
            go_wp2_with fail
            go_ret
            exact ⟨by rw [HF.out]; first | done | rfl, rfl⟩
          · have hb : (s.toList == [46]) = false := by rw [hs1, decide_eq_false c3]
            by_cases c4 : L = [46, 46]
            · have hb2 : (s.toList == [46, 46]) = true := by rw [hs2, decide_eq_true c4]
              have HF := Lib.hid (show U = false by rw [HP.out, decide_eq_true (show 1 ≤ s.size ∧ s.size ≤ 60 by omega), decide_eq_true c3, decide_eq_false (fun h => h c4)]; rfl)
              clear hs1 hs2 c3 c4
              go_wp2_with fail
              go_ret
              exact ⟨by rw [HF.out]; first | done | rfl, rfl⟩
            · have hb2 : (s.toList == [46, 46]) = false := by rw [hs2, decide_eq_false c4]
              have HF := Lib.hid (show U = V by rw [HP.out, decide_eq_true (show 1 ≤ s.size ∧ s.size ≤ 60 by omega), decide_eq_true c3, decide_eq_true c4]; rfl)
              clear hs1 hs2 c3 c4
              go_wp2_with fail
              refine HL.out.mono ?_
              rintro e w1 ⟨rfl, rfl⟩
              go_wp2_with fail
              go_ret
              exact ⟨by rw [HF.out]; first | done | rfl, rfl⟩
        · have HF := Lib.hid (show U = false by rw [HP.out, decide_eq_false (show ¬ (1 ≤ s.size ∧ s.size ≤ 60) by omega)]; rfl)
          clear hs1 hs2
          go_wp2_with fail
          go_ret
          exact ⟨by rw [HF.out]; first | done | rfl, rfl⟩
      · have HF := Lib.hid (show U = false by rw [HP.out, decide_eq_false (show ¬ (1 ≤ s.size ∧ s.size ≤ 60) by omega)]; rfl)
        clear hs1 hs2
        go_wp2_with fail
        go_ret
        exact ⟨by rw [HF.out]; first | done | rfl, rfl⟩
/-- a text as it lies -/
def bE (t : ByteArray) : List Value := [.string t]
theorem bE_len (t : ByteArray) : (bE t).length = 1 := rfl
theorem info_str : (Tryd.prog.info? 9).map (fun i => (i.zero, i.size, i.bytes)) = some (some (.string ByteArray.empty), 1, 16) := by kernel_rfl
/-- texts that the call made -/
def StrPost (l : List ByteArray) (w : World) (e : Ending) (w' : World) : Prop := ∃ v, e = .returned v ∧ w'.ownsRow w.heap.size 9 1 v l.length (l.flatMap bE) ∧ Below w.heap.size w w'
theorem mkB_cat (cur : List UInt8) (s : ByteArray) (i : Nat) (h : i < s.size) : mkB cur ++ s.extract i (i + 1) = mkB (cur ++ [s[i]]) := by
  apply ByteArray.ext
  rw [ByteArray.data_append, ByteArray.data_extract]
  apply Array.ext'
  rw [Array.toList_append, Array.toList_extract, List.extract_eq_take_drop]
  have hd : s.data.toList.drop i = s[i] :: s.data.toList.drop (i + 1) := by rw [List.drop_eq_getElem_cons (by simpa using h)]; rfl
  rw [hd, show i + 1 - i = 1 by omega]
  simp [mkB]
theorem flat_snoc (l : List ByteArray) (x : ByteArray) : (l ++ [x]).flatMap bE = l.flatMap bE ++ [.string x] := by simp [bE]
set_option maxRecDepth 100000 in
set_option maxHeartbeats 4000000 in
theorem refSplit_any (w : World) (s : ByteArray) (hs : s.size ≤ 100000) :
    Calls Tryd.prog 16 #[.string s] w (StrPost (spS s) w) := by
  have HF := Lib.hid (fun v l w' (hl : l = spS s) (h : w'.ownsRow w.heap.size 9 1 v l.length (l.flatMap bE)) (hb : Below w.heap.size w w') => (show StrPost (spS s) w (.returned v) w' from ⟨v, rfl, by rw [← hl]; exact h, hb⟩))
  have htot := spS_len s
  go_enter Tryd.func16, Tryd.ntmps16
  go_wp2_with fail
  go_loopw [3, 4, 5] (fun o cv iv wr => ∃ (i : Nat) (out : List ByteArray) (cur : List UInt8), i ≤ s.size ∧ iv = .int .i64 i ∧ cv = .string (mkB cur) ∧ (47 : UInt8) ∉ cur ∧ cur.length ≤ i ∧ out.length ≤ i ∧ out ++ (spL (cur ++ s.data.toList.drop i)).map mkB = spS s ∧ wr.ownsRow w.heap.size 9 1 o out.length (out.flatMap bE) ∧ Below w.heap.size w wr) (fun _ _ iv _ => s.size - (intOf iv).toNat)
  case atStart => exact ⟨0, [], [], Nat.zero_le _, rfl, rfl, by simp, by simp, by simp, rfl, ⟨rfl, .inl ⟨rfl, rfl⟩⟩, Below.refl _ _⟩
  case round =>
    obtain ⟨i, out, cur, hi, rfl, rfl, hno, hcl, hol, hsp, hown, hbw⟩ := hrel
    by_cases hlt : i < s.size
    · have hd : s.data.toList.drop i = s[i] :: s.data.toList.drop (i + 1) := by rw [List.drop_eq_getElem_cons (by simpa using hlt)]; rfl
      rw [hd] at hsp
      have hcs := mkB_size cur
      by_cases hb : s[i] = 47
      · have hbb : ((s[i].toNat : Int) == 47) = true := by rw [hb]; rfl
        rw [hb, spL_app cur _ hno, List.map_cons] at hsp
        have hsp' : (out ++ [mkB cur]) ++ (spL ([] ++ s.data.toList.drop (i + 1))).map mkB = spS s := by rw [List.append_assoc]; exact hsp
        have hrs := flat_snoc out (mkB cur)
        have hl1 : (out ++ [mkB cur]).length = out.length + 1 := by simp
        have hl6 : out.length + 1 ≤ 1000000 := by omega
        have HRS := Lib.hid (And.intro hrs hl1); clear hrs hl1
        have HO := Lib.hid hown; clear hown
        have HSP := Lib.hid hsp'; clear hsp' hsp hd hb
        have hx0 : (⟨#[]⟩ : ByteArray) = mkB [] := rfl
        have HX0 := Lib.hid hx0; clear hx0
        generalize mkB cur = C at *
        go_wp2_with (refine wpList_app rfl _ _ 31 rfl w.heap.size 9 (.string ByteArray.empty) 1 16 Tryd.underlying31 info_str rfl (by omega) u3 out.length (out.flatMap bE) (by simp [Act.eval, Act.put]) (own_kept HO.out ((Below.refl _ _).alloc (Nat.le_refl _) _)) wr.heap.size 1 _ _ (by simp [Act.eval, Act.put]) (Blk.new _ _ _) rfl (by simp [Value.oneCell']) hl6 (by omega) (by have := hbw.size; simp; omega) _ rfl ?_; intro g2 cap2 w5 ho2 hg2 hat2 hlt2)
        have hw5 : Below w.heap.size w w5 := own_below HO.out (hbw.alloc hbw.size _) hg2 (Nat.le_refl _) (by have := hbw.size; simp; omega)
        go_roundw
        case rel => exact ⟨i + 1, out ++ [C], [], by omega, by go_num, by rw [HX0.out], by simp, by simp, by rw [HRS.out.2]; omega, HSP.out, by rw [HRS.out.1, HRS.out.2]; exact ho2, hw5⟩
        case measure => simp [intOf]; omega
      · have hbb : ((s[i].toNat : Int) == 47) = false := by
          rw [beq_eq_false_iff_ne]
          intro e
          apply hb
          have h47 : s[i].toNat = 47 := by omega
          exact UInt8.toNat_inj.1 (h47.trans rfl)
        have hsp' : out ++ (spL ((cur ++ [s[i]]) ++ s.data.toList.drop (i + 1))).map mkB = spS s := by rw [List.append_assoc]; exact hsp
        have hno' : (47 : UInt8) ∉ cur ++ [s[i]] := by
          rw [List.mem_append, List.mem_singleton, not_or]
          exact ⟨hno, fun e => hb e.symm⟩
        have hcat : mkB cur ++ s.extract i (i + 1) = mkB (cur ++ [s[i]]) := mkB_cat cur s i hlt
        have hes : (s.extract i (i + 1)).size = 1 := by rw [ByteArray.size_extract]; omega
        have HO := Lib.hid hown; clear hown
        have HSP := Lib.hid (And.intro hsp' (And.intro hno' hcat)); clear hsp' hsp hd hb hno' hcat
        generalize mkB cur = C at *
        go_wp2_with fail
        go_roundw
        case rel => exact ⟨i + 1, out, cur ++ [s[i]], by omega, by go_num, by rw [HSP.out.2.2], HSP.out.2.1, by simp; omega, by omega, HSP.out.1, HO.out, hbw⟩
        case measure => simp [intOf]; omega
    · obtain rfl : i = s.size := by omega
      rw [List.drop_of_length_le (by simp), List.append_nil, spL_none cur hno, List.map_singleton] at hsp
      have hrs := flat_snoc out (mkB cur)
      have hl1 : (out ++ [mkB cur]).length = out.length + 1 := by simp
      have hl6 : out.length + 1 ≤ 1000000 := by omega
      have HRS := Lib.hid (And.intro hrs hl1); clear hrs hl1
      have HO := Lib.hid hown; clear hown
      have HSP := Lib.hid hsp; clear hsp hlt
      generalize mkB cur = C at *
      go_wp2_with (refine wpList_app rfl _ _ 31 rfl w.heap.size 9 (.string ByteArray.empty) 1 16 Tryd.underlying31 info_str rfl (by omega) u3 out.length (out.flatMap bE) (by simp [Act.eval, Act.put]) (own_kept HO.out ((Below.refl _ _).alloc (Nat.le_refl _) _)) wr.heap.size 1 _ _ (by simp [Act.eval, Act.put]) (Blk.new _ _ _) rfl (by simp [Value.oneCell']) hl6 (by omega) (by have := hbw.size; simp; omega) _ rfl ?_; intro g2 cap2 w5 ho2 hg2 hat2 hlt2)
      have hw5 : Below w.heap.size w w5 := own_below HO.out (hbw.alloc hbw.size _) hg2 (Nat.le_refl _) (by have := hbw.size; simp; omega)
      have HFIN := Lib.hid (HF.out _ (out ++ [C]) w5 HSP.out (by rw [HRS.out.1, HRS.out.2]; exact ho2) hw5)
      go_ret
      exact HFIN.out
end Go.Proofs.YtpnkgldpmalklaaDoor
