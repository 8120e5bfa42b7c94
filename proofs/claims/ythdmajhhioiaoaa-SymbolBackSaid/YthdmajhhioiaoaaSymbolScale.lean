/- Contracts of symbol.scale: bits, begin, sign, number. -/
import Derived.Test.YthdmajhhioiaoaaRows
import Derived.Test.YthdmajhhioiaoaaKit
import Derived.Test.YthdmajhhioiaoaaSymbolPlain
set_option linter.unusedVariables false
namespace Go.Proofs.Ythdmajhhioiaoaa
open Go.RowKit
open Sw
/-- a scale as a value -/
abbrev scV (fr ea pl ma : Nat) : Value := .agg #[.int .i64 fr, .int .i64 ea, .int .i64 pl, .int .i64 ma]
/-- which scales are meant -/
def ScOk (fr ea pl ma : Nat) : Prop := fr ≤ 3 ∧ 1 ≤ ea ∧ ea ≤ 4 ∧ pl ≤ 8 ∧ pl ≤ ma ∧ ma ≤ 30
set_option maxHeartbeats 400000 in
theorem bits_any (w : World) (fr ea pl ma : Nat) (code : Int) (h : ScOk fr ea pl ma) :
    Calls Try.prog 59 #[scV fr ea pl ma, .int .i64 code] w fun e w' => e = .returned (.int .i64 (bitsI ea pl ma code)) ∧ Below w.heap.size w w' := by
  obtain ⟨h1, h2, h3, h4, h5, h6⟩ := h
  by_cases hin : 0 ≤ code ∧ code < ma
  · obtain ⟨c0, c1⟩ := hin
    obtain ⟨k, rfl⟩ := Int.eq_ofNat_of_zero_le c0
    have hkm : k < ma := by omega
    by_cases hp : k < pl
    · have hr : bitsI ea pl ma k = 0 := by rw [bitsI, if_pos ⟨c0, c1⟩, Int.toNat_natCast, bitsN, if_pos hp]; rfl
      have HR := Lib.hid hr; clear hr
      go_enter Try.func59, Try.ntmps59
      go_wp2
      go_ret
      rw [HR.out]
      exact ⟨rfl, (Below.refl _ _).alloc (Nat.le_refl _) _⟩
    · have hr : bitsI ea pl ma k = ((k : Int) - pl) / ea + 1 := by
        rw [bitsI, if_pos ⟨c0, c1⟩, Int.toNat_natCast, bitsN, if_neg hp, Int.natCast_add, Int.natCast_ediv, Int.ofNat_sub (by omega)]; rfl
      have HR := Lib.hid hr; clear hr
      have hq0 : 0 ≤ ((k : Int) - pl) / ea := Int.ediv_nonneg (by omega) (by omega)
      have hq1 : ((k : Int) - pl) / ea ≤ (k : Int) - pl := Int.ediv_le_self _ (by omega)
      go_enter Try.func59, Try.ntmps59
      go_wp2
      go_ret
      rw [HR.out]
      exact ⟨rfl, (Below.refl _ _).alloc (Nat.le_refl _) _⟩
  · have hr : bitsI ea pl ma code = -1 := if_neg hin
    have HR := Lib.hid hr; clear hr
    by_cases c0 : code < 0
    · clear hin
      go_enter Try.func59, Try.ntmps59
      go_wp2
      go_ret
      rw [HR.out]
      exact ⟨rfl, (Below.refl _ _).alloc (Nat.le_refl _) _⟩
    · have c1 : (ma : Int) ≤ code := by omega
      clear hin
      go_enter Try.func59, Try.ntmps59
      go_wp2
      go_ret
      rw [HR.out]
      exact ⟨rfl, (Below.refl _ _).alloc (Nat.le_refl _) _⟩
theorem bitsI_nat (ea pl ma k : Nat) (h : k < ma) : bitsI ea pl ma (k : Int) = (bitsN ea pl k : Int) := by
  rw [bitsI, if_pos ⟨by omega, by omega⟩, Int.toNat_natCast]
theorem bits_nat_any (w : World) (fr ea pl ma k : Nat) (h : ScOk fr ea pl ma) (hk : k < ma) :
    Calls Try.prog 59 #[scV fr ea pl ma, .int .i64 k] w fun e w' => e = .returned (.int .i64 (bitsN ea pl k : Nat)) ∧ Below w.heap.size w w' := by
  have hb := bits_any w fr ea pl ma k h
  rw [bitsI_nat ea pl ma k hk] at hb
  exact hb
theorem bg_bound (fr ea pl k : Nat) (h1 : fr ≤ 3) (hk : k ≤ 30) : ∀ j, j ≤ k → bgN fr ea pl j ≤ 3 + j * 2 ^ 31 := by
  intro j
  induction j with
  | zero => intro _; rw [bgN]; omega
  | succ j ih =>
    intro hj
    have h2 := ih (by omega)
    have h3 := Nat.pow_le_pow_right (n := 2) (by omega) (bits_le ea pl j (by omega))
    rw [bgN]
    omega
theorem sh64 (b y : Nat) (hb : b ≤ 31) (hy : 2 ^ b = y) : wrap64 ((2 : Int) ^ b) = (y : Int) := by
  have h3 := Nat.pow_le_pow_right (n := 2) (by omega) hb
  have e : (2 : Int) ^ b = ((2 ^ b : Nat) : Int) := by rw [Int.natCast_pow]; rfl
  rw [e, hy]
  rw [hy] at h3
  exact IntWalk.wrap64_in _ ⟨by omega, by omega⟩
theorem sh64_add (x b y : Nat) (hb : b ≤ 31) (hx : x ≤ 2 ^ 40) (hy : 2 ^ b = y) : wrap64 ((x : Int) + wrap64 ((2 : Int) ^ b)) = ((x + y : Nat) : Int) := by
  have h3 := Nat.pow_le_pow_right (n := 2) (by omega) hb
  rw [sh64 b y hb hy]
  rw [hy] at h3
  rw [IntWalk.wrap64_in _ ⟨by omega, by omega⟩]
  omega
set_option maxHeartbeats 1000000 in
theorem begin_any (w : World) (fr ea pl ma c : Nat) (h : ScOk fr ea pl ma) (hc : c ≤ ma) :
    Calls Try.prog 66 #[scV fr ea pl ma, .int .i64 c] w fun e w' => e = .returned (.int .i64 (bgN fr ea pl c : Nat)) ∧ Below w.heap.size w w' := by
  have H := Lib.hid h
  obtain ⟨h1, h2, h3, h4, h5, h6⟩ := h
  go_enter Try.func66, Try.ntmps66
  go_wp2_with fail
  go_loopw [5, 6, 10] (fun n _ t wr => ∃ k : Nat, k ≤ c ∧ t = .int .i64 k ∧ n = .int .i64 (bgN fr ea pl k : Nat) ∧ Blk wr w.heap.size 87 #[.int .i64 fr, .int .i64 ea, .int .i64 pl, .int .i64 ma] ∧ Below w.heap.size w wr) (fun _ _ t _ => c - (intOf t).toNat)
  case atStart => exact ⟨0, Nat.zero_le _, rfl, rfl, Blk.new _ _ _, (Below.refl _ _).alloc (Nat.le_refl _) _⟩
  case round =>
    obtain ⟨k, hk, rfl, rfl, hB, hb⟩ := hrel
    by_cases hlt : k < c
    · have c0 := hB.cell 0
      have c1 := hB.cell 1
      have c2 := hB.cell 2
      have c3 := hB.cell 3
      simp at c0 c1 c2 c3
      have hbl := bits_le ea pl k (by omega)
      have hbg := bg_bound fr ea pl 30 h1 (by omega) k (by omega)
      have HN := Lib.hid (show bgN fr ea pl (k + 1) = bgN fr ea pl k + 2 ^ bitsN ea pl k from rfl)
      have HA := Lib.hid (sh64_add (bgN fr ea pl k) (bitsN ea pl k) _ hbl (by omega) rfl)
      have hc1 := bits_nat_any wr fr ea pl ma k H.out (by omega)
      have HC := Lib.hid hc1; clear hc1
      generalize bgN fr ea pl k = x at *
      generalize bitsN ea pl k = b at *
      go_wp2_with (go_at_call 59; refine HC.out.mono ?_; rintro e w' ⟨rfl, hb1⟩)
      exact ⟨⟨k + 1, by omega, by go_num, by rw [HA.out, HN.out], hB.below hb1 hB.lt, hb.trans (hb1.mono hb.size)⟩, by simp [intOf]; omega⟩
    · obtain rfl : k = c := by omega
      go_wp2_with fail
      go_ret
      exact ⟨rfl, hb⟩
theorem sc_cells {w : World} {g : Nat} {t : TypeId} {a b c d : Value} (h : Blk w g t #[a, b, c, d]) :
    w.cell? ⟨g, 0, none⟩ = some a ∧ w.cell? ⟨g, 1, none⟩ = some b ∧ w.cell? ⟨g, 2, none⟩ = some c ∧ w.cell? ⟨g, 3, none⟩ = some d := ⟨h.cell 0, h.cell 1, h.cell 2, h.cell 3⟩
theorem blk_new2 (w : World) (o : Obj) (t : TypeId) (cs : Array Value) : Blk ((w.alloc o).alloc (.cells cs t)) (w.heap.size + 1) t cs := by
  have h := Blk.new (w.alloc o) t cs
  simpa using h
/-- what sign answers -/
def signV (x : Option (Nat × Nat × Int)) : Value := match x with
  | some (c, b, m) => .tuple #[.agg #[.int .i64 c, .int .i64 b, .int .i64 m], .bool true]
  | none => .tuple #[.agg #[.int .i64 0, .int .i64 0, .int .i64 0], .bool false]
set_option maxHeartbeats 1000000 in
theorem sign_any (w : World) (fr ea pl ma : Nat) (n : Int) (h : ScOk fr ea pl ma) (hn0 : -9223372036854775808 ≤ n) (hn1 : n ≤ 9223372036854775807) :
    Calls Try.prog 57 #[scV fr ea pl ma, .int .i64 n] w fun e w' => e = .returned (signV ((srch fr ea pl n ma 0).map fun k => (k, bitsN ea pl k, n - (bgN fr ea pl k : Int)))) ∧ Below w.heap.size w w' := by
  have H := Lib.hid h
  obtain ⟨h1, h2, h3, h4, h5, h6⟩ := h
  go_enter Try.func57, Try.ntmps57
  go_wp2_with fail
  go_loopw [5, 6, 7, 10] (fun _ _ _ t wr => ∃ k : Nat, k ≤ ma ∧ t = .int .i64 k ∧ srch fr ea pl n ma 0 = srch fr ea pl n (ma - k) k ∧ Blk wr w.heap.size 87 #[.int .i64 fr, .int .i64 ea, .int .i64 pl, .int .i64 ma] ∧ Blk wr (w.heap.size + 1) 42 #[.int .i64 0, .int .i64 0, .int .i64 0] ∧ Below w.heap.size w wr) (fun _ _ _ t _ => ma - (intOf t).toNat)
  case atStart => exact ⟨0, Nat.zero_le _, rfl, rfl, Blk.alloc (Blk.new _ _ _) _, blk_new2 _ _ _ _, ((Below.refl _ _).alloc (Nat.le_refl _) _).alloc (by simp) _⟩
  case round =>
    obtain ⟨k, hk, rfl, hsr, hB, hS, hb⟩ := hrel
    by_cases hlt : k < ma
    · obtain ⟨c0, c1, c2, c3⟩ := sc_cells hB
      have hbl := bits_le ea pl k (by omega)
      have hbg := bg_bound fr ea pl 30 h1 (by omega) k (by omega)
      have hN : bgN fr ea pl (k + 1) = bgN fr ea pl k + 2 ^ bitsN ea pl k := rfl
      have hA := sh64_add (bgN fr ea pl k) (bitsN ea pl k) _ hbl (by omega) rfl
      rw [← hN] at hA
      have hbg1 := bg_bound fr ea pl 30 h1 (by omega) (k + 1) (by omega)
      have hst : srch fr ea pl n (ma - k) k = if (bgN fr ea pl k : Int) ≤ n ∧ n < (bgN fr ea pl (k + 1) : Int) then some k else srch fr ea pl n (ma - (k + 1)) (k + 1) := by
        rw [show ma - k = (ma - (k + 1)) + 1 by omega, srch]
      have hbeg := begin_any wr fr ea pl ma k H.out (by omega)
      have hbit := fun W => bits_nat_any W fr ea pl ma k H.out hlt
      have HBEG := Lib.hid hbeg; clear hbeg
      have HBIT := Lib.hid hbit; clear hbit hN
      generalize bgN fr ea pl (k + 1) = z at *
      have HSR := Lib.hid hsr; clear hsr
      have HST := Lib.hid hst; clear hst
      have hxx : bgN fr ea pl k = bgN fr ea pl k := rfl
      generalize hx : bgN fr ea pl k = x at *
      generalize hbb : bitsN ea pl k = b at *
      clear hxx
      have HX := Lib.hid hx; clear hx
      have HBB := Lib.hid hbb; clear hbb
      by_cases hxn : (x : Int) ≤ n
      · go_wp2_with fail
        refine HBEG.out.mono ?_
        rintro e w1 ⟨rfl, hb1⟩
        have hB1 := hB.below hb1 hB.lt
        have hS1 := hS.below hb1 hS.lt
        have hbw1 := hb.trans (hb1.mono hb.size)
        obtain ⟨d0, d1, d2, d3⟩ := sc_cells hB1
        clear c0 c1 c2 c3
        by_cases hnz : n < (z : Int)
        · go_wp2_with fail
          refine (HBIT.out w1).mono ?_
          rintro e w2 ⟨rfl, hb2⟩
          obtain ⟨e0, e1, e2, e3⟩ := sc_cells (hB1.below hb2 hB1.lt)
          clear d0 d1 d2 d3
          go_wp2_with fail
          refine (HBIT.out w2).mono ?_
          rintro e w3 ⟨rfl, hb3⟩
          have hS3 := (hS1.below hb2 hS1.lt).below hb3 (hS1.below hb2 hS1.lt).lt
          have q0 := hS3.cell 0
          have q1 := hS3.cell 1
          have q2 := hS3.cell 2
          have qf := hS3.frozen
          simp at q0 q1 q2
          clear e0 e1 e2 e3
          go_wp2_with fail
          have hS4 := Blk.put (Blk.put (Blk.put hS3 0 (.int .i64 k)) 1 (.int .i64 b)) 2 (.int .i64 (n - x))
          refine bodyPost_ret (res_blk_tmp rfl _ _ (w.heap.size + 1) 42 #[.int .i64 k, .int .i64 b, .int .i64 (n - x)] _ rfl hS4 Try.underlying42 rfl (by kernel_rfl)) rfl ⟨?_, ?_⟩
          · rw [HSR.out, HST.out, if_pos ⟨hxn, hnz⟩, Option.map_some, HX.out, HBB.out]
            rfl
          · have hbw3 := (hbw1.trans (hb2.mono hbw1.size))
            have hbw4 := hbw3.trans (hb3.mono hbw3.size)
            exact ((hbw4.setCell (Nat.le_succ _) _).setCell (Nat.le_succ _) _).setCell (Nat.le_succ _) _
        · go_wp2_with fail
          refine (HBIT.out w1).mono ?_
          rintro e w2 ⟨rfl, hb2⟩
          clear d0 d1 d2 d3
          go_wp2_with fail
          have hbw2 := (hbw1.trans (hb2.mono hbw1.size))
          exact ⟨⟨k + 1, by omega, by go_num, by rw [HSR.out, HST.out, if_neg (by omega)], hB1.below hb2 hB1.lt, hS1.below hb2 hS1.lt, hbw2⟩, by simp [intOf]; omega⟩
      · go_wp2_with fail
        refine HBEG.out.mono ?_
        rintro e w1 ⟨rfl, hb1⟩
        clear c0 c1 c2 c3
        go_wp2_with fail
        exact ⟨⟨k + 1, by omega, by go_num, by rw [HSR.out, HST.out, if_neg (by omega)], hB.below hb1 hB.lt, hS.below hb1 hS.lt, hb.trans (hb1.mono hb.size)⟩, by simp [intOf]; omega⟩
    · obtain rfl : k = ma := by omega
      have q0 := hS.cell 0
      have q1 := hS.cell 1
      have q2 := hS.cell 2
      have qf := hS.frozen
      simp at q0 q1 q2
      have HSR := Lib.hid hsr; clear hsr
      go_wp2_with fail
      have hS4 := Blk.put (Blk.put (Blk.put hS 0 (.int .i64 0)) 1 (.int .i64 0)) 2 (.int .i64 0)
      refine bodyPost_ret (res_blk_tmp rfl _ _ (w.heap.size + 1) 42 #[.int .i64 0, .int .i64 0, .int .i64 0] _ rfl hS4 Try.underlying42 rfl (by kernel_rfl)) rfl ⟨?_, ?_⟩
      · rw [HSR.out, Nat.sub_self]; rfl
      · exact ((hb.setCell (Nat.le_succ _) _).setCell (Nat.le_succ _) _).setCell (Nat.le_succ _) _
/-- what number answers -/
def numV (x : Option Int) : Value := match x with
  | some n => .tuple #[.int .i64 n, .bool true]
  | none => .tuple #[.int .i64 0, .bool false]
set_option maxHeartbeats 1000000 in
theorem number_any (w : World) (fr ea pl ma : Nat) (code more : Int) (h : ScOk fr ea pl ma) :
    Calls Try.prog 58 #[scV fr ea pl ma, .int .i64 code, .int .i64 more] w fun e w' => e = .returned (numV (numN fr ea pl ma code more)) ∧ Below w.heap.size w w' := by
  have H := Lib.hid h
  obtain ⟨h1, h2, h3, h4, h5, h6⟩ := h
  have hbit := fun W => bits_any W fr ea pl ma code H.out
  have HBIT := Lib.hid hbit; clear hbit
  by_cases hin : 0 ≤ code ∧ code < ma
  · obtain ⟨c0, c1⟩ := hin
    obtain ⟨k, rfl⟩ := Int.eq_ofNat_of_zero_le c0
    have hkm : k < ma := by omega
    have hbl := bits_le ea pl k (by omega)
    have hbg := bg_bound fr ea pl 30 h1 (by omega) k (by omega)
    have hsh := sh64 (bitsN ea pl k) _ hbl rfl
    have hbi := bitsI_nat ea pl ma k hkm
    have hnum : numN fr ea pl ma k more = if 0 ≤ more ∧ more < ((2 ^ bitsN ea pl k : Nat) : Int) then some ((bgN fr ea pl k : Int) + more) else none := by
      rw [numN, Int.toNat_natCast]
      by_cases hm : 0 ≤ more ∧ more < ((2 ^ bitsN ea pl k : Nat) : Int)
      · rw [if_pos hm, if_pos ⟨c0, c1, hm⟩]
      · rw [if_neg hm, if_neg (fun hh => hm ⟨hh.2.2.1, hh.2.2.2⟩)]
    have hp := Nat.pow_le_pow_right (n := 2) (by omega) hbl
    have hbeg := fun W => begin_any W fr ea pl ma k H.out (by omega)
    have HBEG := Lib.hid hbeg; clear hbeg
    have hbit2 := fun W => bits_nat_any W fr ea pl ma k H.out hkm
    have HBIT2 := Lib.hid hbit2; clear hbit2 HBIT hbi
    have HNUM := Lib.hid hnum; clear hnum
    generalize bgN fr ea pl k = x at *
    generalize 2 ^ bitsN ea pl k = y at *
    generalize bitsN ea pl k = b at *
    have hne : ((b : Int) == -1) = false := by rw [beq_eq_false_iff_ne]; omega
    by_cases hm : 0 ≤ more ∧ more < (y : Int)
    · obtain ⟨m0, m1⟩ := hm
      go_enter Try.func58, Try.ntmps58
      go_wp2_with fail
      refine (HBIT2.out _).mono ?_
      rintro e w1 ⟨rfl, hb1⟩
      have hB1 := Blk.below (Blk.new w 87 #[.int .i64 fr, .int .i64 ea, .int .i64 pl, .int .i64 ma]) hb1 (by simp)
      obtain ⟨d0, d1, d2, d3⟩ := sc_cells hB1
      go_wp2_with fail
      refine (HBEG.out _).mono ?_
      rintro e w2 ⟨rfl, hb2⟩
      go_wp2_with fail
      go_ret2
      rw [HNUM.out, if_pos ⟨m0, m1⟩]
      have hbw := ((Below.refl w.heap.size w).alloc (Nat.le_refl _) (Obj.cells #[.int .i64 fr, .int .i64 ea, .int .i64 pl, .int .i64 ma] 87)).trans (hb1.mono (by simp))
      exact ⟨rfl, hbw.trans (hb2.mono hbw.size)⟩
    · go_enter Try.func58, Try.ntmps58
      go_wp2_with fail
      refine (HBIT2.out _).mono ?_
      rintro e w1 ⟨rfl, hb1⟩
      have hm2 : more < 0 ∨ (y : Int) ≤ more := by omega
      have hbw := ((Below.refl w.heap.size w).alloc (Nat.le_refl _) (Obj.cells #[.int .i64 fr, .int .i64 ea, .int .i64 pl, .int .i64 ma] 87)).trans (hb1.mono (by simp))
      have HNN := Lib.hid (HNUM.out.trans (if_neg hm))
      clear hm
      rcases hm2 with hm2 | hm2
      all_goals
        go_wp2_with fail
        go_ret2
        rw [HNN.out]
        exact ⟨rfl, hbw⟩
  · have hb : bitsI ea pl ma code = -1 := if_neg hin
    have hnum : numN fr ea pl ma code more = none := by rw [numN, if_neg (fun hh => hin ⟨hh.1, hh.2.1⟩)]
    have hbo := HBIT.out
    rw [hb] at hbo
    have HBO := Lib.hid hbo; clear hbo hb hin HBIT
    have HNUM := Lib.hid hnum; clear hnum
    go_enter Try.func58, Try.ntmps58
    go_wp2_with fail
    refine (HBO.out _).mono ?_
    rintro e w1 ⟨rfl, hb1⟩
    have hbw := ((Below.refl w.heap.size w).alloc (Nat.le_refl _) (Obj.cells #[.int .i64 fr, .int .i64 ea, .int .i64 pl, .int .i64 ma] 87)).trans (hb1.mono (by simp))
    go_wp2_with fail
    go_ret2
    rw [HNUM.out]
    exact ⟨rfl, hbw⟩
end Go.Proofs.Ythdmajhhioiaoaa
