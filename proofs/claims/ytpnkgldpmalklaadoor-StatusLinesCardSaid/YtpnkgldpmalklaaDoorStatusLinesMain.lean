/- The main walk of StatusLines. -/
import Derived.Test.YtpnkgldpmalklaaDoorStReadB
import Derived.Test.YtpnkgldpmalklaaDoorLiftS
set_option linter.unusedVariables false
set_option linter.unusedSimpArgs false
namespace Sw
open Go Go.RowKit
theorem rdRow_line {p : ByteArray} {v n : Int} (h : mayR p v n = true) : rdRow (lineS p v n) = rowC p v n := by
  have hok : rdOk (lineS p v n) = true := by rw [rdOk_line]; exact h
  obtain ⟨h1, h2, h3⟩ := rd_line h
  rw [rdRow_yes hok, h1, h2, h3]
theorem lineS_lives : lineS ⟨#[97, 47, 98]⟩ 3 2 = ⟨#[33, 32, 103, 111, 110, 101, 32, 97, 47, 98]⟩ := by decide +kernel
theorem rowC_form (s : ByteArray) : ∃ P V C, rdRow s = rowC P V C ∧ (rdOk s = true → lineS P V C = s) ∧ (rdOk s = false → P = ⟨#[]⟩ ∧ V = 0 ∧ C = 0) ∧ P.size ≤ s.size := by
  cases h : rdOk s with
  | true =>
    refine ⟨rdP s, rdV s, rdC s, rdRow_yes h, fun _ => ?_, fun h => (by cases h), rdP_size s⟩
    unfold rdOk at h
    rw [Bool.and_eq_true] at h
    exact of_decide_eq_true h.2
  | false =>
    exact ⟨⟨#[]⟩, 0, 0, rdRow_no h, (fun h => by cases h), fun _ => ⟨rfl, rfl, rfl⟩, Nat.zero_le _⟩
end Sw
namespace Go.Proofs.YtpnkgldpmalklaaDoor
open Go Go.ChangeShapes Go.WideShapes Go.ChangeAt Go.RowKit
open Go.ChangeMaps (open_string)
open Sw
theorem clash_right (cp : ByteArray) (cn : Int) (h1 : 1 ≤ cn) (h2 : cn ≤ 4) (hr : rightL cp.data.toList = true) : clashS cp cn = (⟨#[33, 32]⟩ ++ clsS cn) ++ ⟨#[32]⟩ ++ cp := by unfold clashS; rw [if_pos ⟨⟨h1, h2⟩, hr⟩]
theorem clash_wrong (cp : ByteArray) (cn : Int) (hr : rightL cp.data.toList = false) : clashS cp cn = ⟨#[]⟩ := by unfold clashS; rw [if_neg (by rw [hr]; simp)]
theorem clash_out (cp : ByteArray) (cn : Int) (h : ¬ (1 ≤ cn ∧ cn ≤ 4)) : clashS cp cn = ⟨#[]⟩ := by unfold clashS; rw [if_neg (fun x => h x.1)]
set_option maxRecDepth 100000 in
set_option maxHeartbeats 1000000 in
theorem stLives_any (w : World) :
    Calls Tryd.prog 4 #[] w fun e w' => e = .returned (.bool true) ∧ Below w.heap.size w w' := by
  have HL := Lib.hid (fun W => (by
    have := stLine_any W ⟨#[97, 47, 98]⟩ 3 2 (by decide)
    rw [lineS_lives] at this
    exact this : Calls Tryd.prog 8 #[.agg #[.string ⟨#[97, 47, 98]⟩, .int .i64 3, .int .i64 2]] W fun e w' => e = .returned (.string ⟨#[33, 32, 103, 111, 110, 101, 32, 97, 47, 98]⟩) ∧ Below W.heap.size W w'))
  go_enter Tryd.func4, Tryd.ntmps4
  go_wp2_with fail
  refine (HL.out _).mono ?_
  rintro e w2 ⟨rfl, hb⟩
  go_wp2_with fail
  go_ret
  exact ⟨rfl, hb⟩
/-- what is known between the calls -/
def SLs (W : World) (r c : Array Value) (w : World) : Prop := Blk w W.heap.size 23 r ∧ Blk w (W.heap.size + 1) 25 c ∧ Below W.heap.size W w
theorem SLs.keep {W : World} {r c : Array Value} (w w' : World) (h : SLs W r c w) (hb : Below w.heap.size w w') : SLs W r c w' :=
  ⟨h.1.below hb h.1.lt, h.2.1.below hb h.2.1.lt, h.2.2.trans (hb.mono h.2.2.size)⟩
set_option maxRecDepth 100000 in
theorem eq_rowR (p : ByteArray) (v n : Int) (W : World) : (binOp .neq 23 (.agg #[.string p, .int .i64 v, .int .i64 n]) (.agg #[.string p, .int .i64 v, .int .i64 n])).run Tryd.prog W = .ok (.bool false) W := by
  simp [go_sem, Tryd.underlying23, Tryd.underlying9, Tryd.underlying3]
set_option maxRecDepth 100000 in
theorem eq_rowZ (W : World) : (binOp .eql 28 (.agg #[.string ⟨#[]⟩, .int .i64 0, .int .i64 0]) (.agg #[.string ⟨#[]⟩, .int .i64 0, .int .i64 0])).run Tryd.prog W = .ok (.bool true) W := by
  simp [go_sem, Tryd.underlying28, Tryd.underlying9, Tryd.underlying3]
/-- what is known between the later calls -/
def SL2 (W : World) (g3 g4 : Nat) (r c a b : Array Value) (w : World) : Prop := Blk w W.heap.size 23 r ∧ Blk w (W.heap.size + 1) 25 c ∧ Blk w g3 28 a ∧ Blk w g4 28 b ∧ Below W.heap.size W w
theorem SL2.keep {W : World} {g3 g4 : Nat} {r c a b : Array Value} (w w' : World) (h : SL2 W g3 g4 r c a b w) (hb : Below w.heap.size w w') : SL2 W g3 g4 r c a b w' :=
  ⟨h.1.below hb h.1.lt, h.2.1.below hb h.2.1.lt, h.2.2.1.below hb h.2.2.1.lt, h.2.2.2.1.below hb h.2.2.2.1.lt, h.2.2.2.2.trans (hb.mono h.2.2.2.2.size)⟩
set_option maxRecDepth 100000 in
set_option maxHeartbeats 8000000 in
theorem statusLines_main (w : World) (m : Int) (p : ByteArray) (v n : Int) (t : ByteArray) (cp : ByteArray) (cn : Int) (hp : p.size ≤ maxLen) (ht : t.size ≤ maxLen) (hcp : cp.size ≤ maxLen) (hm : w.cell? ⟨0, 0, none⟩ = some (.int .i64 m)) :
    Calls Tryd.prog 3 #[.agg (rowC p v n), .string t, .agg (clsC cp cn)] w fun e w' => e = .returned (.bool true) ∧ Below w.heap.size w w' := by
  unfold maxLen at hp ht hcp
  have h0 := World.block_lt_of_cell? w _ hm
  have HA := Lib.hid (show SLs w (rowC p v n) (clsC cp cn) ((w.alloc (.cells (rowC p v n) 23)).alloc (.cells (clsC cp cn) 25)) from by
    have h1 := Blk.new w 23 (rowC p v n)
    have h2 := Blk.new (w.alloc (.cells (rowC p v n) 23)) 25 (clsC cp cn)
    rw [show (w.alloc (.cells (rowC p v n) 23)).heap.size = w.heap.size + 1 by simp] at h2
    exact ⟨h1.alloc _, h2, ((Below.refl w.heap.size w).alloc (Nat.le_refl _) _).alloc (by simp) _⟩)
  have k0 := HA.out.1.cell 0
  have k1 := HA.out.1.cell 1
  have k2 := HA.out.1.cell 2
  have c0 := HA.out.2.1.cell 0
  have c1 := HA.out.2.1.cell 1
  simp at k0 k1 k2 c0 c1
  have HL := Lib.hid (fun W => stLives_any W)
  by_cases hp3 : (300 : Int) < p.size
  · clear hm
    go_enter Tryd.func3, Tryd.ntmps3
    go_wp2_with fail
    refine (HL.out _).mono ?_
    rintro e w2 ⟨rfl, hb⟩
    go_wp2_with fail
    go_ret
    exact ⟨rfl, (SLs.keep _ _ HA.out hb).2.2⟩
  · by_cases hc3 : (300 : Int) < cp.size
    · clear hm
      go_enter Tryd.func3, Tryd.ntmps3
      go_wp2_with fail
      refine (HL.out _).mono ?_
      rintro e w2 ⟨rfl, hb⟩
      go_wp2_with fail
      go_ret
      exact ⟨rfl, (SLs.keep _ _ HA.out hb).2.2⟩
    · have HRD := Lib.hid (fun W s (h : Below w.heap.size w W) (hs : s.size ≤ 90000) => stRead_any W m s hs ((h.cell (p := ⟨0, 0, none⟩) h0).trans hm))
      clear hm
      go_enter Tryd.func3, Tryd.ntmps3
      have HLN := Lib.hid (fun W => (by
        have := refLine38_any W p v n (by omega)
        exact this : Calls Tryd.prog 5 #[.agg #[.string p, .int .i64 v, .int .i64 n]] W fun e w' => e = .returned (.string (lineS p v n)) ∧ Below W.heap.size W w'))
      have HLO := Lib.hid (fun W => (by
        have := stLine_any W p v n (by omega)
        exact this : Calls Tryd.prog 8 #[.agg #[.string p, .int .i64 v, .int .i64 n]] W fun e w' => e = .returned (.string (lineS p v n)) ∧ Below W.heap.size W w'))
      have hls := lineS_size p v n
      have hle : (lineS p v n).toList.isEmpty = !mayR p v n := by
        rw [strE]
        cases hmm : mayR p v n with
        | false => rw [lineS_nil.2 hmm]; rfl
        | true =>
          rw [decide_eq_false (fun e => by rw [lineS_nil.1 e] at hmm; cases hmm)]; rfl
      obtain ⟨P1, V1, C1, hr1, hM1⟩ : ∃ P1 V1 C1, rdRow (lineS p v n) = #[.string P1, .int .i64 V1, .int .i64 C1] ∧ (mayR p v n = true → P1 = p ∧ V1 = v ∧ C1 = n) := by
        cases hmm : mayR p v n with
        | true => exact ⟨p, v, n, rdRow_line hmm, fun _ => ⟨rfl, rfl, rfl⟩⟩
        | false =>
          obtain ⟨P, V, C, h, _⟩ := rowC_form (lineS p v n)
          exact ⟨P, V, C, h, (fun h => by cases h)⟩
      have HR1 := Lib.hid (fun W (h : Below w.heap.size w W) => (by
        have := HRD.out W (lineS p v n) h (by omega)
        rw [hr1, rdOk_line] at this
        exact this : Calls Tryd.prog 6 #[.string (lineS p v n)] W fun e w' => e = .returned (.tuple #[.agg #[.string P1, .int .i64 V1, .int .i64 C1], .bool (mayR p v n)]) ∧ Below W.heap.size W w'))
      clear hr1
      have hts : (t.extract 0 (min (t.size : Int) 400).toNat).size ≤ 400 := by rw [ByteArray.size_extract]; omega
      obtain ⟨T, hT⟩ : ∃ T, t.extract 0 (min (t.size : Int) 400).toNat = T := ⟨_, rfl⟩
      rw [hT] at hts
      obtain ⟨P2, V2, C2, hr2, hG1, hG0, hP2⟩ := rowC_form T
      have HR2 := Lib.hid (fun W (h : Below w.heap.size w W) => (by
        have := HRD.out W T h (by omega)
        rw [hr2] at this
        exact this : Calls Tryd.prog 6 #[.string T] W fun e w' => e = .returned (.tuple #[.agg #[.string P2, .int .i64 V2, .int .i64 C2], .bool (rdOk T)]) ∧ Below W.heap.size W w'))
      clear hr2 HRD
      have HL2 := Lib.hid (fun W (h : rdOk T = true) => (by
        have := refLine38_any W P2 V2 C2 (by omega)
        rw [hG1 h] at this
        exact this : Calls Tryd.prog 5 #[.agg #[.string P2, .int .i64 V2, .int .i64 C2]] W fun e w' => e = .returned (.string T) ∧ Below W.heap.size W w'))
      have HG0 := Lib.hid hG0; clear hG0 hG1
      generalize rdOk T = G at *
      have HM1 := Lib.hid hM1; clear hM1
      generalize mayR p v n = M at *
      generalize lineS p v n = L at *
      have HRT := Lib.hid (fun W => refRight_any W cp (by omega))
      have HCH := Lib.hid (fun W => (by
        have := stClash_any W cp cn (by omega)
        exact this : Calls Tryd.prog 9 #[.agg #[.string cp, .int .i64 cn]] W fun e w' => e = .returned (.string (clashS cp cn)) ∧ Below W.heap.size W w'))
      have HCL := Lib.hid (fun W => stClass_any W cn)
      go_wp2_with fail
      refine (HLN.out _).mono ?_
      rintro e w2 ⟨rfl, hb⟩
      have HA2 := Lib.hid (SLs.keep _ _ HA.out hb)
      clear hb k0 k1 k2 c0 c1 HA HLN
      go_wp2_with fail
      refine (HR1.out _ HA2.out.2.2).mono ?_
      rintro e w3 ⟨rfl, hb⟩
      have HA3 := Lib.hid (SLs.keep _ _ HA2.out hb)
      clear hb HA2 HR1
      have hn3 := Blk.new w3 28 #[.string P1, .int .i64 V1, .int .i64 C1]
      have HA4 := Lib.hid (And.intro (HA3.out.1.alloc (.cells #[.string P1, .int .i64 V1, .int .i64 C1] 28)) (And.intro (HA3.out.2.1.alloc (.cells #[.string P1, .int .i64 V1, .int .i64 C1] 28)) (And.intro hn3 (HA3.out.2.2.alloc HA3.out.2.2.size (.cells #[.string P1, .int .i64 V1, .int .i64 C1] 28)))))
      clear hn3
      go_wp2_with fail
      refine (HR2.out _ HA4.out.2.2.2).mono ?_
      rintro e w4 ⟨rfl, hb⟩
      have HA5 := Lib.hid (And.intro (HA4.out.1.below hb HA4.out.1.lt) (And.intro (HA4.out.2.1.below hb HA4.out.2.1.lt) (And.intro (HA4.out.2.2.1.below hb HA4.out.2.2.1.lt) (HA4.out.2.2.2.trans (hb.mono HA4.out.2.2.2.size)))))
      have gen3 : w3.heap.size < w4.heap.size := HA5.out.2.2.1.lt
      clear hb HA4 HA3 HR2
      have HS := Lib.hid (show SL2 w w3.heap.size w4.heap.size (rowC p v n) (clsC cp cn) #[.string P1, .int .i64 V1, .int .i64 C1] #[.string P2, .int .i64 V2, .int .i64 C2] (w4.alloc (.cells #[.string P2, .int .i64 V2, .int .i64 C2] 28)) from
        ⟨HA5.out.1.alloc _, HA5.out.2.1.alloc _, HA5.out.2.2.1.alloc _, Blk.new _ _ _, HA5.out.2.2.2.alloc HA5.out.2.2.2.size _⟩)
      clear HA5
      have c0 := HS.out.2.1.cell 0
      have c1 := HS.out.2.1.cell 1
      simp at c0 c1
      -- CASES
      by_cases hcl : 1 ≤ cn
      · by_cases hch : cn ≤ 4
        · skip
          have hci : (cn - 1).toNat < 4 := by omega
          have hib : 0 ≤ cn - 1 ∧ cn - 1 < 4 := by omega
          have hce := clsS_empty cn
          rw [decide_eq_false (by simpa using And.intro hcl hch)] at hce
          have hc5 := clsS_size cn
          have hcw : ([.string ⟨#[98, 111, 116, 104]⟩, .string ⟨#[103, 111, 110, 101]⟩, .string ⟨#[107, 105, 110, 100, 115]⟩, .string ⟨#[115, 104, 97, 112, 101]⟩] : List Value)[cn.toNat - 1]? = some (.string (clsS cn)) := by
            obtain rfl | rfl | rfl | rfl : cn = 1 ∨ cn = 2 ∨ cn = 3 ∨ cn = 4 := by omega
            all_goals rfl
          have HSN := Lib.hid (SL2.keep _ _ HS.out ((Below.refl _ _).alloc (Nat.le_refl _) (.cells #[.string ⟨#[98, 111, 116, 104]⟩, .string ⟨#[103, 111, 110, 101]⟩, .string ⟨#[107, 105, 110, 100, 115]⟩, .string ⟨#[115, 104, 97, 112, 101]⟩] 9)))
          have d0 := HSN.out.2.1.cell 0
          have d1 := HSN.out.2.1.cell 1
          simp at d0 d1
          clear HS
          cases hr : rightL cp.data.toList with
          | true =>
            rw [clash_right cp cn hcl hch hr] at HCH
            rw [hr] at HRT
            clear hr
            generalize clsS cn = CW at *
            have q1 : ¬ 9223372036854775807 < 2 + CW.size := by omega
            have q2 : ¬ 9223372036854775807 < 2 + CW.size + 1 := by omega
            have q3 : ¬ 9223372036854775807 < 2 + CW.size + 1 + cp.size := by omega
            go_wp2_with fail
            refine (HRT.out _).mono ?_
            rintro e wR ⟨rfl, hb⟩
            have HS := Lib.hid (SL2.keep _ _ HSN.out hb)
            clear hb hcw HSN d0 d1 c0 c1
            have c0 := HS.out.2.1.cell 0
            have c1 := HS.out.2.1.cell 1
            simp at c0 c1
            have k0 := HS.out.1.cell 0
            have k1 := HS.out.1.cell 1
            have k2 := HS.out.1.cell 2
            simp at k0 k1 k2
            have HEQ := Lib.hid (fun W => eq_rowR p v n W)
            cases M with
            | true =>
              obtain ⟨rfl, rfl, rfl⟩ := HM1.out rfl
              go_wp2_with fail
              refine (HLO.out _).mono ?_
              rintro e w5 ⟨rfl, hb⟩
              have HS5 := Lib.hid (SL2.keep _ _ HS.out hb)
              clear hb k0 k1 k2 c0 c1 HS
              have k0 := HS5.out.1.cell 0
              have k1 := HS5.out.1.cell 1
              have k2 := HS5.out.1.cell 2
              have c0 := HS5.out.2.1.cell 0
              have c1 := HS5.out.2.1.cell 1
              have a0 := HS5.out.2.2.1.cell 0
              have a1 := HS5.out.2.2.1.cell 1
              have a2 := HS5.out.2.2.1.cell 2
              simp at k0 k1 k2 c0 c1 a0 a1 a2
              have heq := fun W => HEQ.out W
              go_wp2_with fail
              refine (HCH.out _).mono ?_
              rintro e w6 ⟨rfl, hb⟩
              have HS6 := Lib.hid (SL2.keep _ _ HS5.out hb)
              clear hb k0 k1 k2 c0 c1 a0 a1 a2 heq HS5 HEQ
              have b0 := HS6.out.2.2.2.1.cell 0
              have b1 := HS6.out.2.2.2.1.cell 1
              have b2 := HS6.out.2.2.2.1.cell 2
              have c0 := HS6.out.2.1.cell 0
              have c1 := HS6.out.2.1.cell 1
              simp at b0 b1 b2 c0 c1
              cases G with
              | true =>
                have HL2' := Lib.hid (fun W => HL2.out W rfl)
                clear HL2
                go_wp2_with fail
                refine (HCL.out _).mono ?_
                rintro e _ ⟨rfl, rfl⟩
                go_wp2_with fail
                refine (HL2'.out _).mono ?_
                rintro e w7 ⟨rfl, hb⟩
                have HS7 := Lib.hid (SL2.keep _ _ HS6.out hb)
                clear hb b0 b1 b2 c0 c1 HS6
                go_wp2_with fail
                refine (HL.out _).mono ?_
                rintro e w8 ⟨rfl, hb⟩
                go_wp2_with fail
                go_ret
                exact ⟨rfl, (SL2.keep _ _ HS7.out hb).2.2.2.2⟩
              | false =>
                obtain ⟨rfl, rfl, rfl⟩ := HG0.out rfl
                clear HL2 HG0
                have hez := fun W => eq_rowZ W
                go_wp2_with fail
                refine (HCL.out _).mono ?_
                rintro e _ ⟨rfl, rfl⟩
                go_wp2_with fail
                refine (HL.out _).mono ?_
                rintro e w8 ⟨rfl, hb⟩
                go_wp2_with fail
                go_ret
                exact ⟨rfl, (SL2.keep _ _ HS6.out hb).2.2.2.2⟩
            | false =>
              clear HM1 HEQ
              go_wp2_with fail
              refine (HLO.out _).mono ?_
              rintro e w5 ⟨rfl, hb⟩
              have HS5 := Lib.hid (SL2.keep _ _ HS.out hb)
              clear hb k0 k1 k2 c0 c1 HS
              have c0 := HS5.out.2.1.cell 0
              have c1 := HS5.out.2.1.cell 1
              simp at c0 c1
              go_wp2_with fail
              refine (HCH.out _).mono ?_
              rintro e w6 ⟨rfl, hb⟩
              have HS6 := Lib.hid (SL2.keep _ _ HS5.out hb)
              clear hb c0 c1 HS5
              have b0 := HS6.out.2.2.2.1.cell 0
              have b1 := HS6.out.2.2.2.1.cell 1
              have b2 := HS6.out.2.2.2.1.cell 2
              have c0 := HS6.out.2.1.cell 0
              have c1 := HS6.out.2.1.cell 1
              simp at b0 b1 b2 c0 c1
              cases G with
              | true =>
                have HL2' := Lib.hid (fun W => HL2.out W rfl)
                clear HL2
                go_wp2_with fail
                refine (HCL.out _).mono ?_
                rintro e _ ⟨rfl, rfl⟩
                go_wp2_with fail
                refine (HL2'.out _).mono ?_
                rintro e w7 ⟨rfl, hb⟩
                have HS7 := Lib.hid (SL2.keep _ _ HS6.out hb)
                clear hb b0 b1 b2 c0 c1 HS6
                go_wp2_with fail
                refine (HL.out _).mono ?_
                rintro e w8 ⟨rfl, hb⟩
                go_wp2_with fail
                go_ret
                exact ⟨rfl, (SL2.keep _ _ HS7.out hb).2.2.2.2⟩
              | false =>
                obtain ⟨rfl, rfl, rfl⟩ := HG0.out rfl
                clear HL2 HG0
                have hez := fun W => eq_rowZ W
                go_wp2_with fail
                refine (HCL.out _).mono ?_
                rintro e _ ⟨rfl, rfl⟩
                go_wp2_with fail
                refine (HL.out _).mono ?_
                rintro e w8 ⟨rfl, hb⟩
                go_wp2_with fail
                go_ret
                exact ⟨rfl, (SL2.keep _ _ HS6.out hb).2.2.2.2⟩
          | false =>
            rw [clash_wrong cp cn hr] at HCH
            rw [hr] at HRT
            clear hr
            generalize clsS cn = CW at *
            go_wp2_with fail
            refine (HRT.out _).mono ?_
            rintro e wR ⟨rfl, hb⟩
            have HS := Lib.hid (SL2.keep _ _ HSN.out hb)
            clear hb hcw HSN d0 d1 c0 c1
            have c0 := HS.out.2.1.cell 0
            have c1 := HS.out.2.1.cell 1
            simp at c0 c1
            have k0 := HS.out.1.cell 0
            have k1 := HS.out.1.cell 1
            have k2 := HS.out.1.cell 2
            simp at k0 k1 k2
            have HEQ := Lib.hid (fun W => eq_rowR p v n W)
            cases M with
            | true =>
              obtain ⟨rfl, rfl, rfl⟩ := HM1.out rfl
              go_wp2_with fail
              refine (HLO.out _).mono ?_
              rintro e w5 ⟨rfl, hb⟩
              have HS5 := Lib.hid (SL2.keep _ _ HS.out hb)
              clear hb k0 k1 k2 c0 c1 HS
              have k0 := HS5.out.1.cell 0
              have k1 := HS5.out.1.cell 1
              have k2 := HS5.out.1.cell 2
              have c0 := HS5.out.2.1.cell 0
              have c1 := HS5.out.2.1.cell 1
              have a0 := HS5.out.2.2.1.cell 0
              have a1 := HS5.out.2.2.1.cell 1
              have a2 := HS5.out.2.2.1.cell 2
              simp at k0 k1 k2 c0 c1 a0 a1 a2
              have heq := fun W => HEQ.out W
              go_wp2_with fail
              refine (HCH.out _).mono ?_
              rintro e w6 ⟨rfl, hb⟩
              have HS6 := Lib.hid (SL2.keep _ _ HS5.out hb)
              clear hb k0 k1 k2 c0 c1 a0 a1 a2 heq HS5 HEQ
              have b0 := HS6.out.2.2.2.1.cell 0
              have b1 := HS6.out.2.2.2.1.cell 1
              have b2 := HS6.out.2.2.2.1.cell 2
              have c0 := HS6.out.2.1.cell 0
              have c1 := HS6.out.2.1.cell 1
              simp at b0 b1 b2 c0 c1
              cases G with
              | true =>
                have HL2' := Lib.hid (fun W => HL2.out W rfl)
                clear HL2
                go_wp2_with fail
                refine (HCL.out _).mono ?_
                rintro e _ ⟨rfl, rfl⟩
                go_wp2_with fail
                refine (HL2'.out _).mono ?_
                rintro e w7 ⟨rfl, hb⟩
                have HS7 := Lib.hid (SL2.keep _ _ HS6.out hb)
                clear hb b0 b1 b2 c0 c1 HS6
                go_wp2_with fail
                refine (HL.out _).mono ?_
                rintro e w8 ⟨rfl, hb⟩
                go_wp2_with fail
                go_ret
                exact ⟨rfl, (SL2.keep _ _ HS7.out hb).2.2.2.2⟩
              | false =>
                obtain ⟨rfl, rfl, rfl⟩ := HG0.out rfl
                clear HL2 HG0
                have hez := fun W => eq_rowZ W
                go_wp2_with fail
                refine (HCL.out _).mono ?_
                rintro e _ ⟨rfl, rfl⟩
                go_wp2_with fail
                refine (HL.out _).mono ?_
                rintro e w8 ⟨rfl, hb⟩
                go_wp2_with fail
                go_ret
                exact ⟨rfl, (SL2.keep _ _ HS6.out hb).2.2.2.2⟩
            | false =>
              clear HM1 HEQ
              go_wp2_with fail
              refine (HLO.out _).mono ?_
              rintro e w5 ⟨rfl, hb⟩
              have HS5 := Lib.hid (SL2.keep _ _ HS.out hb)
              clear hb k0 k1 k2 c0 c1 HS
              have c0 := HS5.out.2.1.cell 0
              have c1 := HS5.out.2.1.cell 1
              simp at c0 c1
              go_wp2_with fail
              refine (HCH.out _).mono ?_
              rintro e w6 ⟨rfl, hb⟩
              have HS6 := Lib.hid (SL2.keep _ _ HS5.out hb)
              clear hb c0 c1 HS5
              have b0 := HS6.out.2.2.2.1.cell 0
              have b1 := HS6.out.2.2.2.1.cell 1
              have b2 := HS6.out.2.2.2.1.cell 2
              have c0 := HS6.out.2.1.cell 0
              have c1 := HS6.out.2.1.cell 1
              simp at b0 b1 b2 c0 c1
              cases G with
              | true =>
                have HL2' := Lib.hid (fun W => HL2.out W rfl)
                clear HL2
                go_wp2_with fail
                refine (HCL.out _).mono ?_
                rintro e _ ⟨rfl, rfl⟩
                go_wp2_with fail
                refine (HL2'.out _).mono ?_
                rintro e w7 ⟨rfl, hb⟩
                have HS7 := Lib.hid (SL2.keep _ _ HS6.out hb)
                clear hb b0 b1 b2 c0 c1 HS6
                go_wp2_with fail
                refine (HL.out _).mono ?_
                rintro e w8 ⟨rfl, hb⟩
                go_wp2_with fail
                go_ret
                exact ⟨rfl, (SL2.keep _ _ HS7.out hb).2.2.2.2⟩
              | false =>
                obtain ⟨rfl, rfl, rfl⟩ := HG0.out rfl
                clear HL2 HG0
                have hez := fun W => eq_rowZ W
                go_wp2_with fail
                refine (HCL.out _).mono ?_
                rintro e _ ⟨rfl, rfl⟩
                go_wp2_with fail
                refine (HL.out _).mono ?_
                rintro e w8 ⟨rfl, hb⟩
                go_wp2_with fail
                go_ret
                exact ⟨rfl, (SL2.keep _ _ HS6.out hb).2.2.2.2⟩
        · have hc2 : 4 < cn := by omega
          rw [clash_out cp cn (by omega)] at HCH
          rw [clsS_out (show ¬ (1 ≤ cn ∧ cn ≤ 4) by omega)] at HCL
          clear hch HRT
          have k0 := HS.out.1.cell 0
          have k1 := HS.out.1.cell 1
          have k2 := HS.out.1.cell 2
          simp at k0 k1 k2
          have HEQ := Lib.hid (fun W => eq_rowR p v n W)
          cases M with
          | true =>
            obtain ⟨rfl, rfl, rfl⟩ := HM1.out rfl
            go_wp2_with fail
            refine (HLO.out _).mono ?_
            rintro e w5 ⟨rfl, hb⟩
            have HS5 := Lib.hid (SL2.keep _ _ HS.out hb)
            clear hb k0 k1 k2 c0 c1 HS
            have k0 := HS5.out.1.cell 0
            have k1 := HS5.out.1.cell 1
            have k2 := HS5.out.1.cell 2
            have c0 := HS5.out.2.1.cell 0
            have c1 := HS5.out.2.1.cell 1
            have a0 := HS5.out.2.2.1.cell 0
            have a1 := HS5.out.2.2.1.cell 1
            have a2 := HS5.out.2.2.1.cell 2
            simp at k0 k1 k2 c0 c1 a0 a1 a2
            have heq := fun W => HEQ.out W
            go_wp2_with fail
            refine (HCH.out _).mono ?_
            rintro e w6 ⟨rfl, hb⟩
            have HS6 := Lib.hid (SL2.keep _ _ HS5.out hb)
            clear hb k0 k1 k2 c0 c1 a0 a1 a2 heq HS5 HEQ
            have b0 := HS6.out.2.2.2.1.cell 0
            have b1 := HS6.out.2.2.2.1.cell 1
            have b2 := HS6.out.2.2.2.1.cell 2
            have c0 := HS6.out.2.1.cell 0
            have c1 := HS6.out.2.1.cell 1
            simp at b0 b1 b2 c0 c1
            cases G with
            | true =>
              have HL2' := Lib.hid (fun W => HL2.out W rfl)
              clear HL2
              go_wp2_with fail
              refine (HCL.out _).mono ?_
              rintro e _ ⟨rfl, rfl⟩
              go_wp2_with fail
              refine (HL2'.out _).mono ?_
              rintro e w7 ⟨rfl, hb⟩
              have HS7 := Lib.hid (SL2.keep _ _ HS6.out hb)
              clear hb b0 b1 b2 c0 c1 HS6
              go_wp2_with fail
              refine (HL.out _).mono ?_
              rintro e w8 ⟨rfl, hb⟩
              go_wp2_with fail
              go_ret
              exact ⟨rfl, (SL2.keep _ _ HS7.out hb).2.2.2.2⟩
            | false =>
              obtain ⟨rfl, rfl, rfl⟩ := HG0.out rfl
              clear HL2 HG0
              have hez := fun W => eq_rowZ W
              go_wp2_with fail
              refine (HCL.out _).mono ?_
              rintro e _ ⟨rfl, rfl⟩
              go_wp2_with fail
              refine (HL.out _).mono ?_
              rintro e w8 ⟨rfl, hb⟩
              go_wp2_with fail
              go_ret
              exact ⟨rfl, (SL2.keep _ _ HS6.out hb).2.2.2.2⟩
          | false =>
            clear HM1 HEQ
            go_wp2_with fail
            refine (HLO.out _).mono ?_
            rintro e w5 ⟨rfl, hb⟩
            have HS5 := Lib.hid (SL2.keep _ _ HS.out hb)
            clear hb k0 k1 k2 c0 c1 HS
            have c0 := HS5.out.2.1.cell 0
            have c1 := HS5.out.2.1.cell 1
            simp at c0 c1
            go_wp2_with fail
            refine (HCH.out _).mono ?_
            rintro e w6 ⟨rfl, hb⟩
            have HS6 := Lib.hid (SL2.keep _ _ HS5.out hb)
            clear hb c0 c1 HS5
            have b0 := HS6.out.2.2.2.1.cell 0
            have b1 := HS6.out.2.2.2.1.cell 1
            have b2 := HS6.out.2.2.2.1.cell 2
            have c0 := HS6.out.2.1.cell 0
            have c1 := HS6.out.2.1.cell 1
            simp at b0 b1 b2 c0 c1
            cases G with
            | true =>
              have HL2' := Lib.hid (fun W => HL2.out W rfl)
              clear HL2
              go_wp2_with fail
              refine (HCL.out _).mono ?_
              rintro e _ ⟨rfl, rfl⟩
              go_wp2_with fail
              refine (HL2'.out _).mono ?_
              rintro e w7 ⟨rfl, hb⟩
              have HS7 := Lib.hid (SL2.keep _ _ HS6.out hb)
              clear hb b0 b1 b2 c0 c1 HS6
              go_wp2_with fail
              refine (HL.out _).mono ?_
              rintro e w8 ⟨rfl, hb⟩
              go_wp2_with fail
              go_ret
              exact ⟨rfl, (SL2.keep _ _ HS7.out hb).2.2.2.2⟩
            | false =>
              obtain ⟨rfl, rfl, rfl⟩ := HG0.out rfl
              clear HL2 HG0
              have hez := fun W => eq_rowZ W
              go_wp2_with fail
              refine (HCL.out _).mono ?_
              rintro e _ ⟨rfl, rfl⟩
              go_wp2_with fail
              refine (HL.out _).mono ?_
              rintro e w8 ⟨rfl, hb⟩
              go_wp2_with fail
              go_ret
              exact ⟨rfl, (SL2.keep _ _ HS6.out hb).2.2.2.2⟩
      · have hc1 : cn < 1 := by omega
        rw [clash_out cp cn (by omega)] at HCH
        rw [clsS_out (show ¬ (1 ≤ cn ∧ cn ≤ 4) by omega)] at HCL
        clear hcl HRT
        have k0 := HS.out.1.cell 0
        have k1 := HS.out.1.cell 1
        have k2 := HS.out.1.cell 2
        simp at k0 k1 k2
        have HEQ := Lib.hid (fun W => eq_rowR p v n W)
        cases M with
        | true =>
          obtain ⟨rfl, rfl, rfl⟩ := HM1.out rfl
          go_wp2_with fail
          refine (HLO.out _).mono ?_
          rintro e w5 ⟨rfl, hb⟩
          have HS5 := Lib.hid (SL2.keep _ _ HS.out hb)
          clear hb k0 k1 k2 c0 c1 HS
          have k0 := HS5.out.1.cell 0
          have k1 := HS5.out.1.cell 1
          have k2 := HS5.out.1.cell 2
          have c0 := HS5.out.2.1.cell 0
          have c1 := HS5.out.2.1.cell 1
          have a0 := HS5.out.2.2.1.cell 0
          have a1 := HS5.out.2.2.1.cell 1
          have a2 := HS5.out.2.2.1.cell 2
          simp at k0 k1 k2 c0 c1 a0 a1 a2
          have heq := fun W => HEQ.out W
          go_wp2_with fail
          refine (HCH.out _).mono ?_
          rintro e w6 ⟨rfl, hb⟩
          have HS6 := Lib.hid (SL2.keep _ _ HS5.out hb)
          clear hb k0 k1 k2 c0 c1 a0 a1 a2 heq HS5 HEQ
          have b0 := HS6.out.2.2.2.1.cell 0
          have b1 := HS6.out.2.2.2.1.cell 1
          have b2 := HS6.out.2.2.2.1.cell 2
          have c0 := HS6.out.2.1.cell 0
          have c1 := HS6.out.2.1.cell 1
          simp at b0 b1 b2 c0 c1
          cases G with
          | true =>
            have HL2' := Lib.hid (fun W => HL2.out W rfl)
            clear HL2
            go_wp2_with fail
            refine (HCL.out _).mono ?_
            rintro e _ ⟨rfl, rfl⟩
            go_wp2_with fail
            refine (HL2'.out _).mono ?_
            rintro e w7 ⟨rfl, hb⟩
            have HS7 := Lib.hid (SL2.keep _ _ HS6.out hb)
            clear hb b0 b1 b2 c0 c1 HS6
            go_wp2_with fail
            refine (HL.out _).mono ?_
            rintro e w8 ⟨rfl, hb⟩
            go_wp2_with fail
            go_ret
            exact ⟨rfl, (SL2.keep _ _ HS7.out hb).2.2.2.2⟩
          | false =>
            obtain ⟨rfl, rfl, rfl⟩ := HG0.out rfl
            clear HL2 HG0
            have hez := fun W => eq_rowZ W
            go_wp2_with fail
            refine (HCL.out _).mono ?_
            rintro e _ ⟨rfl, rfl⟩
            go_wp2_with fail
            refine (HL.out _).mono ?_
            rintro e w8 ⟨rfl, hb⟩
            go_wp2_with fail
            go_ret
            exact ⟨rfl, (SL2.keep _ _ HS6.out hb).2.2.2.2⟩
        | false =>
          clear HM1 HEQ
          go_wp2_with fail
          refine (HLO.out _).mono ?_
          rintro e w5 ⟨rfl, hb⟩
          have HS5 := Lib.hid (SL2.keep _ _ HS.out hb)
          clear hb k0 k1 k2 c0 c1 HS
          have c0 := HS5.out.2.1.cell 0
          have c1 := HS5.out.2.1.cell 1
          simp at c0 c1
          go_wp2_with fail
          refine (HCH.out _).mono ?_
          rintro e w6 ⟨rfl, hb⟩
          have HS6 := Lib.hid (SL2.keep _ _ HS5.out hb)
          clear hb c0 c1 HS5
          have b0 := HS6.out.2.2.2.1.cell 0
          have b1 := HS6.out.2.2.2.1.cell 1
          have b2 := HS6.out.2.2.2.1.cell 2
          have c0 := HS6.out.2.1.cell 0
          have c1 := HS6.out.2.1.cell 1
          simp at b0 b1 b2 c0 c1
          cases G with
          | true =>
            have HL2' := Lib.hid (fun W => HL2.out W rfl)
            clear HL2
            go_wp2_with fail
            refine (HCL.out _).mono ?_
            rintro e _ ⟨rfl, rfl⟩
            go_wp2_with fail
            refine (HL2'.out _).mono ?_
            rintro e w7 ⟨rfl, hb⟩
            have HS7 := Lib.hid (SL2.keep _ _ HS6.out hb)
            clear hb b0 b1 b2 c0 c1 HS6
            go_wp2_with fail
            refine (HL.out _).mono ?_
            rintro e w8 ⟨rfl, hb⟩
            go_wp2_with fail
            go_ret
            exact ⟨rfl, (SL2.keep _ _ HS7.out hb).2.2.2.2⟩
          | false =>
            obtain ⟨rfl, rfl, rfl⟩ := HG0.out rfl
            clear HL2 HG0
            have hez := fun W => eq_rowZ W
            go_wp2_with fail
            refine (HCL.out _).mono ?_
            rintro e _ ⟨rfl, rfl⟩
            go_wp2_with fail
            refine (HL.out _).mono ?_
            rintro e w8 ⟨rfl, hb⟩
            go_wp2_with fail
            go_ret
            exact ⟨rfl, (SL2.keep _ _ HS6.out hb).2.2.2.2⟩
      -- END CASES
end Go.Proofs.YtpnkgldpmalklaaDoor
