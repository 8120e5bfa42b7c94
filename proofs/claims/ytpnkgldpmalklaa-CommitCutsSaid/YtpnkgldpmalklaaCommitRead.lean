/- The contract of commit.Read. -/
import Derived.Test.YtpnkgldpmalklaaCommit
set_option linter.unusedVariables false
set_option linter.unusedSimpArgs false
namespace Go.Proofs.Ytpnkgldpmalklaa
open Go.RowKit
open Sw
set_option maxRecDepth 100000 in
theorem eq_mark (a b c d : Int) (W : World) : (binOp .eql 77 (.agg #[.int .i64 a, .int .i64 b]) (.agg #[.int .i64 c, .int .i64 d])).run Try.prog W = .ok (.bool (decide (a = c ∧ b = d))) W := by
  by_cases h1 : a = c
  · subst h1
    by_cases h2 : b = d
    · subst h2
      simp [go_sem, Try.underlying77, Try.underlying3]
    · have hb := beq_eq_false_iff_ne.2 h2
      simp [go_sem, hb, h2, Try.underlying77, Try.underlying3]
  · have hb := beq_eq_false_iff_ne.2 h1
    simp [go_sem, hb, h1, Try.underlying77, Try.underlying3]
theorem rdAt_leC (s : ByteArray) (p : Nat) (bad : Bool) (n : Int) (hp : p ≤ s.size) : rdAt s p bad n ≤ s.size := by
  unfold rdAt
  split
  · rename_i h
    simp [canRead] at h
    omega
  · exact hp
def p1C (s : ByteArray) : Nat := rdAt s 0 false 8
def b1C (s : ByteArray) : Bool := rdBad s 0 false 8
def tC (s : ByteArray) : Nat := rdNum s (p1C s) (b1C s) 8
def p2C (s : ByteArray) : Nat := rdAt s (p1C s) (b1C s) (wd 8)
def b2C (s : ByteArray) : Bool := rdBad s (p1C s) (b1C s) (wd 8)
def lC (s : ByteArray) : Nat := rdNum s (p2C s) (b2C s) 8
/-- is what was read no mark? -/
def noB (s : ByteArray) (t l : Int) : Bool := decide (t = 0 ∧ l = 0) || s.toList.isEmpty || !(writeL t l == s.toList)
def readV (s : ByteArray) (t l : Int) : Value := if noB s t l then .tuple #[.agg #[.int .i64 0, .int .i64 0], .bool false] else .tuple #[.agg #[.int .i64 t, .int .i64 l], .bool true]
theorem rdNum_lt (s : ByteArray) (p : Nat) (bad : Bool) : rdNum s p bad 8 < 2 ^ 64 := by
  unfold rdNum
  have h := leN_lt (rdText s p bad (wd 8)).data.toList
  have hs := rdText_size s p bad (wd 8)
  have hl : (rdText s p bad (wd 8)).data.toList.length = (rdText s p bad (wd 8)).size := by rw [Array.length_toList]; rfl
  have h8 : (rdText s p bad (wd 8)).size ≤ 8 := by
    cases hc : canRead s p bad (wd 8) with
    | true => have h1 := hs.1 hc; rw [show wd 8 = 8 from rfl] at h1 ⊢; omega
    | false => have := hs.2 hc; omega
  rw [hl] at h
  have : 256 ^ (rdText s p bad (wd 8)).size ≤ 256 ^ 8 := Nat.pow_le_pow_right (by omega) h8
  omega
set_option maxRecDepth 100000 in
set_option maxHeartbeats 4000000 in
theorem cRead_any (s : ByteArray) (w : World) (hs : s.size ≤ maxLen) (t l : Int) (ht : IntKind.i64.wrap (tC s : Int) = t) (hl : IntKind.i64.wrap (lC s : Int) = l) :
    Calls Try.prog 41 #[.string s] w fun e w' => e = .returned (readV s t l) ∧ Below w.heap.size w w' := by
  have hskip := fun W g (h : Rdr W g s 0 false) => rdSkip_any W g s 0 false 8 hs (Nat.zero_le _) h
  have hn1 := fun W g (h : Rdr W g s (p1C s) (b1C s)) => rdNum_any W g s (p1C s) (b1C s) 8 hs (rdAt_leC s 0 false 8 (Nat.zero_le _)) h
  have hn2 := fun W g (h : Rdr W g s (p2C s) (b2C s)) => rdNum_any W g s (p2C s) (b2C s) 8 hs (rdAt_leC s (p1C s) (b1C s) (wd 8) (rdAt_leC s 0 false 8 (Nat.zero_le _))) h
  have hwr := fun W => cWrite_any t l W
  have HC := Lib.hid (And.intro hskip (And.intro hn1 (And.intro hn2 hwr))); clear hskip hn1 hn2 hwr
  have heq := fun W => eq_mark t l 0 0 W
  have HT := Lib.hid (And.intro ht hl)
  have htn : IntKind.i64.wrap (rdNum s (p1C s) (b1C s) 8 : Int) = t := ht
  have hln : IntKind.i64.wrap (rdNum s (p2C s) (b2C s) 8 : Int) = l := hl
  clear ht hl
  go_enter Try.func41, Try.ntmps41
  go_wp2_with (go_at_call 67; refine (read_any _ s).mono ?_; rintro e w1 ⟨rfl, rfl⟩)
  have hR0 := blk_snd w (.cells #[.int .i64 0, .int .i64 0] 77) #[.string s, .int .i64 0, .bool false] 140
  have hM0 := (Blk.new w 77 #[.int .i64 0, .int .i64 0]).alloc (.cells #[.string s, .int .i64 0, .bool false] 140)
  have hB0 : Below w.heap.size w ((w.alloc (.cells #[.int .i64 0, .int .i64 0] 77)).alloc (.cells #[.string s, .int .i64 0, .bool false] 140)) := ((Below.refl _ w).alloc (Nat.le_refl _) _).alloc (by simp) _
  have hgs : w.heap.size + 1 < ((w.alloc (.cells #[.int .i64 0, .int .i64 0] 77)).alloc (.cells #[.string s, .int .i64 0, .bool false] 140)).heap.size := by simp
  generalize (w.alloc (.cells #[.int .i64 0, .int .i64 0] 77)).alloc (.cells #[.string s, .int .i64 0, .bool false] 140) = w1 at *
  obtain ⟨W, hW⟩ : ∃ W, W = w.heap.size := ⟨_, rfl⟩
  have HW := Lib.hid hW
  rw [← hW] at hR0 hM0 hB0 hgs ⊢
  clear hW
  refine (HC.out.1 w1 (W + 1) hR0).mono ?_
  rintro e w2 ⟨rfl, hR2, hg2⟩
  have hM2 := hM0.grown hg2 (by simp)
  have hB2 := below_grown hB0 hg2 (by omega) (by omega)
  have hs2 := hg2.size
  clear hR0 hM0 hB0 hg2
  have HM := Lib.hid (And.intro hM2 hB2); clear hM2 hB2
  go_wp2_with fail
  refine (HC.out.2.1 _ (W + 1) hR2).mono ?_
  rintro e w3 ⟨rfl, hR3, hg3⟩
  have hM3 := HM.out.1.grown hg3 (by simp)
  have hB3 := below_grown HM.out.2 hg3 (by omega) (by omega)
  have hs3 := hg3.size
  clear hR2 hg3 HM
  have HM := Lib.hid (And.intro hM3 hB3); clear hM3 hB3
  go_wp2_with fail
  refine (HC.out.2.2.1 _ (W + 1) hR3).mono ?_
  rintro e w4 ⟨rfl, hR4, hg4⟩
  have hM4 := HM.out.1.grown hg4 (by simp)
  have hB4 := below_grown HM.out.2 hg4 (by omega) (by omega)
  have hs4 := hg4.size
  clear hR3 hg4 HM hR4
  have hM5 := hM4.alloc (.cells #[.int .i64 t, .int .i64 l] 77)
  have hm5 := Blk.new w4 77 #[.int .i64 t, .int .i64 l]
  have hB5 : Below W w (w4.alloc (.cells #[.int .i64 t, .int .i64 l] 77)) := hB4.alloc (by omega) _
  have hne : W ≠ w4.heap.size := by omega
  have HM := Lib.hid (And.intro hM5 (And.intro hm5 (And.intro hB5 hne))); clear hM5 hm5 hB5 hM4 hB4 hne
  have m0 := HM.out.1.cell 0
  have m1 := HM.out.1.cell 1
  have f0 := HM.out.1.frozen 0
  have f1 := HM.out.1.frozen 1
  have q0 := HM.out.2.1.cell 0
  have q1 := HM.out.2.1.cell 1
  simp at m0 m1 q0 q1
  cases hA : decide (t = 0 ∧ l = 0) with
  | true =>
    rw [hA] at heq
    have hno : noB s t l = true := by unfold noB; rw [hA]; rfl
    have HNO := Lib.hid hno
    clear hno hA
    go_wp2_with fail
    refine bodyPost_ret (res_blk_tmp rfl _ _ W 77 #[.int .i64 0, .int .i64 0] _ rfl ((HM.out.1.put 0 (.int .i64 0)).put 1 (.int .i64 0)) Try.underlying77 rfl (by kernel_rfl)) rfl ⟨by rw [readV, if_pos HNO.out]; rfl, ?_⟩
    rw [← HW.out]
    exact (HM.out.2.2.1.setCell (p := ⟨W, 0, none⟩) (Nat.le_refl _) _).setCell (p := ⟨W, 1, none⟩) (Nat.le_refl _) _
  | false =>
    rw [hA] at heq
    have HA := Lib.hid hA; clear hA
    go_wp2_with fail
    · have hE : s.toList = [] := by assumption
      have hno : noB s t l = true := by unfold noB; rw [hE]; simp
      have HNO := Lib.hid hno
      refine bodyPost_ret (res_blk_tmp rfl _ _ W 77 #[.int .i64 0, .int .i64 0] _ rfl ((HM.out.1.put 0 (.int .i64 0)).put 1 (.int .i64 0)) Try.underlying77 rfl (by kernel_rfl)) rfl ⟨by rw [readV, if_pos HNO.out]; rfl, ?_⟩
      rw [← HW.out]
      exact (HM.out.2.2.1.setCell (p := ⟨W, 0, none⟩) (Nat.le_refl _) _).setCell (p := ⟨W, 1, none⟩) (Nat.le_refl _) _
    · have hE : ¬ s.toList = [] := by assumption
      refine (HC.out.2.2.2 _).mono ?_
      rintro e w6 ⟨rfl, hb6⟩
      have hz6 := hb6.size
      simp at hz6
      have hM6 := HM.out.1.below hb6 (by have := HM.out.1.lt; simpa using this)
      have hm6 := HM.out.2.1.below hb6 (by simp)
      have hB6 := HM.out.2.2.1.trans (hb6.mono (by simp; omega))
      have HM6 := Lib.hid (And.intro hM6 (And.intro hm6 hB6)); clear hM6 hm6 hB6 hb6
      clear m0 m1 f0 f1 q0 q1
      have m0 := HM6.out.1.cell 0
      have m1 := HM6.out.1.cell 1
      have f0 := HM6.out.1.frozen 0
      have f1 := HM6.out.1.frozen 1
      have q0 := HM6.out.2.1.cell 0
      have q1 := HM6.out.2.1.cell 1
      simp at m0 m1 q0 q1
      have HE := Lib.hid hE; clear hE
      go_wp2_with fail
      · have hD : s.toList.isEmpty = true ∨ (!writeL t l == s.toList) = true := by assumption
        have hno : noB s t l = true := by
          unfold noB
          rcases hD with hD | hD
          · rw [hD]; simp
          · rw [hD]; simp
        have HNO := Lib.hid hno
        refine bodyPost_ret (res_blk_tmp rfl _ _ W 77 #[.int .i64 0, .int .i64 0] _ rfl ((HM6.out.1.put 0 (.int .i64 0)).put 1 (.int .i64 0)) Try.underlying77 rfl (by kernel_rfl)) rfl ⟨by rw [readV, if_pos HNO.out]; rfl, ?_⟩
        rw [← HW.out]
        exact (HM6.out.2.2.setCell (p := ⟨W, 0, none⟩) (Nat.le_refl _) _).setCell (p := ⟨W, 1, none⟩) (Nat.le_refl _) _
      · have hD : s.toList.isEmpty = false ∧ (!writeL t l == s.toList) = false := by assumption
        have hno : ¬ noB s t l = true := by
          unfold noB
          rw [HA.out, hD.1, hD.2]; simp
        have HNO := Lib.hid hno
        refine bodyPost_ret (res_blk_tmp rfl _ _ W 77 #[.int .i64 t, .int .i64 l] _ rfl ((HM6.out.1.put 0 (.int .i64 t)).put 1 (.int .i64 l)) Try.underlying77 rfl (by kernel_rfl)) rfl ⟨by rw [readV, if_neg HNO.out]; rfl, ?_⟩
        rw [← HW.out]
        exact (HM6.out.2.2.setCell (p := ⟨W, 0, none⟩) (Nat.le_refl _) _).setCell (p := ⟨W, 1, none⟩) (Nat.le_refl _) _
/-! What is read of a mark's sector, and of whatever is none. -/
theorem rd_midC (s : ByteArray) (a b c : List UInt8) (h : s.data.toList = a ++ (b ++ c)) (p n : Nat) (hp : p = a.length) (hn : n = b.length) :
    (rdText s p false n).data.toList = b ∧ rdAt s p false n = p + n ∧ rdBad s p false n = false := by
  subst hp hn
  have hsz : s.size = a.length + (b.length + c.length) := by
    have : s.data.toList.length = s.size := by rw [Array.length_toList]; rfl
    rw [← this, h]; simp
  have hc : canRead s a.length false b.length = true := by simp [canRead]; omega
  refine ⟨?_, by unfold rdAt; rw [if_pos hc]; rfl, by unfold rdBad; rw [hc]; rfl⟩
  unfold rdText
  rw [if_pos hc]
  have : (s.extract a.length (a.length + b.length)).data.toList = (s.data.toList.take (a.length + b.length)).drop a.length := by
    rw [ByteArray.data_extract, Array.toList_extract, List.extract_eq_take_drop, List.drop_take]
  show (s.extract a.length (a.length + b.length)).data.toList = b
  rw [this, h, ← List.append_assoc, List.take_left' (by simp), List.drop_left' rfl]
theorem read_mark (t l : Nat) (hm : mOk t l = true) : tC ⟨(markL t l).toArray⟩ = t ∧ lC ⟨(markL t l).toArray⟩ = l := by
  have hb : t ≤ 1099511627776 ∧ l ≤ 4194304 := by simp [mOk] at hm; omega
  have e : (⟨(markL t l).toArray⟩ : ByteArray).data.toList = beginL ++ (putL t 8 ++ (putL l 8 ++ (putL (ofS (headL t l)) 4 ++ List.replicate 484 0))) := by
    show markL t l = _
    unfold markL crcL headL
    simp only [List.append_assoc]
  generalize (⟨(markL t l).toArray⟩ : ByteArray) = s at e
  have h1 := rd_midC s [] beginL _ (by rw [List.nil_append]; exact e) 0 8 rfl rfl
  have h2 := rd_midC s beginL (putL t 8) _ e 8 8 rfl (putL_length _ _).symm
  have h3 := rd_midC s (beginL ++ putL t 8) (putL l 8) _ (by rw [List.append_assoc]; exact e) 16 8 (by rw [List.length_append, putL_length]; rfl) (putL_length _ _).symm
  have p1 : p1C s = 8 := h1.2.1
  have b1 : b1C s = false := h1.2.2
  have w8 : wd 8 = ((8 : Nat) : Int) := rfl
  have p2 : p2C s = 16 := by unfold p2C; rw [p1, b1, w8]; exact h2.2.1
  have b2 : b2C s = false := by unfold b2C; rw [p1, b1, w8]; exact h2.2.2
  constructor
  · unfold tC rdNum
    rw [p1, b1, w8, h2.1, leN_putL]
    exact Nat.mod_eq_of_lt (by omega)
  · unfold lC rdNum
    rw [p2, b2, w8, h3.1, leN_putL]
    exact Nat.mod_eq_of_lt (by omega)
theorem cRead_yes (t l : Nat) (w : World) (hm : mOk t l = true) :
    Calls Try.prog 41 #[.string ⟨(markL t l).toArray⟩] w fun e w' => e = .returned (.tuple #[.agg #[.int .i64 t, .int .i64 l], .bool true]) ∧ Below w.heap.size w w' := by
  obtain ⟨h1, h2⟩ := read_mark t l hm
  have hb : t ≤ 1099511627776 ∧ 534 ≤ l ∧ l ≤ 4194304 := by simp [mOk] at hm; omega
  have h := cRead_any ⟨(markL t l).toArray⟩ w (by show (markL t l).toArray.size ≤ _; simp [markL_len, maxLen]) t l (by rw [h1]; exact IntWalk.i64_in _ (by omega)) (by rw [h2]; exact IntWalk.i64_in _ (by omega))
  have hno : noB ⟨(markL t l).toArray⟩ t l = false := by
    have e : (⟨(markL t l).toArray⟩ : ByteArray).toList = markL t l := by rw [ByteArray.toList_eq]
    have e2 : writeL (t : Int) (l : Int) = markL t l := by simp [writeL, hm]
    unfold noB
    rw [e, e2]
    have h3 : (markL t l).isEmpty = false := by
      cases hq : markL t l with
      | nil => have := markL_len t l; rw [hq] at this; simp at this
      | cons a r => rfl
    have h4 : decide ((t : Int) = 0 ∧ (l : Int) = 0) = false := by simp; omega
    rw [h3, h4]; simp
  have hv : readV ⟨(markL t l).toArray⟩ t l = .tuple #[.agg #[.int .i64 t, .int .i64 l], .bool true] := by unfold readV; rw [hno]; rfl
  rw [hv] at h
  exact h
theorem cRead_no (s : ByteArray) (w : World) (hs : s.size ≤ maxLen) (hno : ∀ t l : Nat, mOk t l = true → s.data.toList ≠ markL t l) :
    Calls Try.prog 41 #[.string s] w fun e w' => e = .returned (.tuple #[.agg #[.int .i64 0, .int .i64 0], .bool false]) ∧ Below w.heap.size w w' := by
  have h := cRead_any s w hs _ _ rfl rfl
  generalize IntKind.i64.wrap (tC s : Int) = t at h
  generalize IntKind.i64.wrap (lC s : Int) = l at h
  have hn : noB s t l = true := by
    unfold noB
    cases he : s.toList.isEmpty with
    | true => simp
    | false =>
      have : (writeL t l == s.toList) = false := by
        rw [beq_eq_false_iff_ne]
        intro e
        unfold writeL at e
        cases hm : mOk t l with
        | false => rw [hm] at e; simp at e; rw [e] at he; simp at he
        | true =>
          rw [hm, if_pos rfl, ByteArray.toList_eq] at e
          have hb : 0 ≤ t ∧ 0 ≤ l := by simp [mOk] at hm; omega
          refine hno t.toNat l.toNat ?_ e.symm
          rw [Int.toNat_of_nonneg hb.1, Int.toNat_of_nonneg hb.2]; exact hm
      rw [this]; simp
  have hv : readV s t l = .tuple #[.agg #[.int .i64 0, .int .i64 0], .bool false] := by unfold readV; rw [hn]; rfl
  rw [hv] at h
  exact h
end Go.Proofs.Ytpnkgldpmalklaa
