/- What is read of an end, in plain words. -/
import Derived.Test.YthmlfeaoaanmoaaEndRead
set_option linter.unusedVariables false
set_option linter.unusedSimpArgs false
namespace Go.Proofs.Ythmlfeaoaanmoaa
open Go.RowKit
open Sw
/-- the number at a place -/
def numL (t : ByteArray) (off w : Nat) : Nat := leN ((t.data.toList.drop off).take w)
theorem ext_list (t : ByteArray) (p n : Nat) : (t.extract p (p + n)).data.toList = (t.data.toList.drop p).take n := by
  rw [ByteArray.data_extract, Array.toList_extract, List.extract_eq_take_drop, Nat.add_sub_cancel_left]
theorem rd_ok (t : ByteArray) (p n : Nat) (h : p + n ≤ t.size) (hn : n ≤ 8) : rdS t n (p, false) = (p + n, false) ∧ nmE t n (p, false) = numL t p n := by
  have hw : wd (n : Int) = n := by unfold wd; rw [if_neg (by omega)]
  have hc : canRead t p false n = true := by simp [canRead]; omega
  constructor
  · unfold rdS rdAt rdBad
    simp only
    rw [hw, hc]; rfl
  · unfold nmE rdNum
    simp only
    rw [hw]
    unfold rdText
    rw [if_pos hc, Int.toNat_natCast, ext_list]; rfl
theorem rd_fine (t : ByteArray) (n : Nat) (pb : Nat × Bool) (hn : n ≤ 8) (h : (rdS t n pb).2 = false) : pb.2 = false ∧ pb.1 + n ≤ t.size ∧ (rdS t n pb).1 = pb.1 + n := by
  have hw : wd (n : Int) = n := by unfold wd; rw [if_neg (by omega)]
  unfold rdS rdBad at h
  simp only [hw] at h
  have hc : canRead t pb.1 pb.2 n = true := by simpa using h
  refine ⟨?_, ?_, ?_⟩
  · unfold canRead at hc; simp at hc; exact hc.1
  · unfold canRead at hc; simp at hc; omega
  · unfold rdS rdAt; simp only [hw, hc, if_true]; simp
theorem ok_short (t : ByteArray) (h : t.size < 22) : okE t = false := by
  cases h7 : (e7E t).2 with
  | true => unfold okE; rw [h7]; simp
  | false =>
    obtain ⟨a6, b6, c6⟩ := rd_fine t 2 (e6E t) (by omega) h7
    obtain ⟨a5, b5, c5⟩ := rd_fine t 4 (e5E t) (by omega) a6
    obtain ⟨a4, b4, c4⟩ := rd_fine t 4 (e4E t) (by omega) a5
    obtain ⟨a3, b3, c3⟩ := rd_fine t 2 (e3E t) (by omega) a4
    obtain ⟨a2, b2, c2⟩ := rd_fine t 2 (e2E t) (by omega) a3
    obtain ⟨a1, b1, c1⟩ := rd_fine t 4 (e1E t) (by omega) a2
    obtain ⟨a0, b0, c0⟩ := rd_fine t 4 (e0E t) (by omega) a1
    change (e6E t).1 = _ at c5
    change (e5E t).1 = _ at c4
    change (e4E t).1 = _ at c3
    change (e3E t).1 = _ at c2
    change (e2E t).1 = _ at c1
    change (e1E t).1 = _ at c0
    have : (e0E t).1 = 0 := rfl
    omega
theorem ok_chain (t : ByteArray) (h : 22 ≤ t.size) :
    (nmE t 4 (e0E t) = numL t 0 4 ∧ nmE t 4 (e1E t) = numL t 4 4 ∧ nmE t 2 (e2E t) = numL t 8 2 ∧ nmE t 2 (e3E t) = numL t 10 2) ∧ nmE t 4 (e4E t) = numL t 12 4 ∧ nmE t 4 (e5E t) = numL t 16 4 ∧ nmE t 2 (e6E t) = numL t 20 2 ∧ e7E t = (22, false) := by
  have e0 : e0E t = (0, false) := rfl
  obtain ⟨s0, v0⟩ := rd_ok t 0 4 (by omega) (by omega)
  have e1 : e1E t = (4, false) := by unfold e1E; rw [e0, s0]
  obtain ⟨s1, v1⟩ := rd_ok t 4 4 (by omega) (by omega)
  have e2 : e2E t = (8, false) := by unfold e2E; rw [e1, s1]
  obtain ⟨s2, v2⟩ := rd_ok t 8 2 (by omega) (by omega)
  have e3 : e3E t = (10, false) := by unfold e3E; rw [e2, s2]
  obtain ⟨s3, v3⟩ := rd_ok t 10 2 (by omega) (by omega)
  have e4 : e4E t = (12, false) := by unfold e4E; rw [e3, s3]
  obtain ⟨s4, v4⟩ := rd_ok t 12 4 (by omega) (by omega)
  have e5 : e5E t = (16, false) := by unfold e5E; rw [e4, s4]
  obtain ⟨s5, v5⟩ := rd_ok t 16 4 (by omega) (by omega)
  have e6 : e6E t = (20, false) := by unfold e6E; rw [e5, s5]
  obtain ⟨s6, v6⟩ := rd_ok t 20 2 (by omega) (by omega)
  have e7 : e7E t = (22, false) := by unfold e7E; rw [e6, s6]
  rw [e0, e1, e2, e3, e4, e5, e6, e7]
  exact ⟨⟨v0, v1, v2, v3⟩, v4, v5, v6, rfl⟩
theorem leN_inj : ∀ (l m : List UInt8), l.length = m.length → leN l = leN m → l = m
  | [], [], _, _ => rfl
  | [], _ :: _, h, _ => by simp at h
  | _ :: _, [], h, _ => by simp at h
  | a :: l, b :: m, h, e => by
    have ha := a.toNat_lt
    have hb := b.toNat_lt
    simp only [leN] at e
    have h1 : a.toNat = b.toNat := by omega
    have h2 : leN l = leN m := by omega
    rw [UInt8.toNat_inj.1 h1, leN_inj l m (by simpa using h) h2]
def beginE : ByteArray := ⟨#[80, 75, 5, 6, 0, 0, 0, 0]⟩
theorem bytes_ext {s t : ByteArray} (h : s.data.toList = t.data.toList) : s = t := by
  cases s; cases t
  congr 1
  exact Array.toList_inj.1 h
theorem begin_iff (t : ByteArray) (h : 22 ≤ t.size) : (t.extract 0 8 = beginE) ↔ (numL t 0 4 = 101010256 ∧ numL t 4 4 = 0) := by
  have hl : t.data.toList.length = t.size := by rw [Array.length_toList]; rfl
  have e8 := ext_list t 0 8
  rw [Nat.zero_add, List.drop_zero] at e8
  have hsp : t.data.toList.take 8 = t.data.toList.take 4 ++ (t.data.toList.drop 4).take 4 := by
    rw [← List.take_append_drop 4 (t.data.toList.take 8), List.take_take, List.drop_take]; rfl
  have n0 : numL t 0 4 = leN (t.data.toList.take 4) := by unfold numL; rw [List.drop_zero]
  have n1 : numL t 4 4 = leN ((t.data.toList.drop 4).take 4) := rfl
  constructor
  · intro e
    have e2 : t.data.toList.take 8 = [80, 75, 5, 6, 0, 0, 0, 0] := by rw [← e8, e]; rfl
    have e3 : t.data.toList.take 4 = [80, 75, 5, 6] := by
      have := congrArg (List.take 4) e2
      rw [List.take_take] at this; simpa using this
    have e4 : (t.data.toList.drop 4).take 4 = [0, 0, 0, 0] := by
      have := congrArg (List.drop 4) e2
      rw [List.drop_take] at this; simpa using this
    rw [n0, n1, e3, e4]
    exact ⟨by decide, by decide⟩
  · rintro ⟨h0, h1⟩
    have e3 : t.data.toList.take 4 = [80, 75, 5, 6] := leN_inj _ _ (by rw [List.length_take]; simp; omega) (by rw [← n0, h0]; decide)
    have e4 : (t.data.toList.drop 4).take 4 = [0, 0, 0, 0] := leN_inj _ _ (by rw [List.length_take, List.length_drop]; simp; omega) (by rw [← n1, h1]; decide)
    apply bytes_ext
    rw [e8, hsp, e3, e4]; rfl
theorem again_iff (t : ByteArray) (h : 22 ≤ t.size) : (t.extract 8 10 = t.extract 10 12) ↔ numL t 10 2 = numL t 8 2 := by
  have hl : t.data.toList.length = t.size := by rw [Array.length_toList]; rfl
  have e1 := ext_list t 8 2
  have e2 := ext_list t 10 2
  constructor
  · intro e
    unfold numL
    rw [← e1, ← e2, e]
  · intro e
    apply bytes_ext
    have e1' : (t.extract 8 10).data.toList = (t.data.toList.drop 8).take 2 := e1
    have e2' : (t.extract 10 12).data.toList = (t.data.toList.drop 10).take 2 := e2
    rw [e1', e2']
    exact leN_inj _ _ (by rw [List.length_take, List.length_drop, List.length_take, List.length_drop]; omega) e.symm
/-- is an end read, in the reference's words? -/
def okR (t : ByteArray) : Bool := decide (t.extract 0 8 = beginE) && decide (t.extract 8 10 = t.extract 10 12) && rI (numL t 8 2) (numL t 12 4) (numL t 16 4) (numL t 20 2) && decide ((t.size : Int) = 22 + numL t 20 2)
theorem ok_eq (t : ByteArray) (h : 22 ≤ t.size) : okE t = okR t := by
  obtain ⟨⟨v0, v1, v2, v3⟩, v4, v5, v6, e7⟩ := ok_chain t h
  unfold okE okR
  rw [v0, v1, v2, v3, v4, v5, v6, e7]
  have hb : (numL t 0 4 == 101010256 && numL t 4 4 == 0) = decide (t.extract 0 8 = beginE) := by
    rw [Bool.eq_iff_iff]; simp [begin_iff t h]
  have ha : (numL t 10 2 == numL t 8 2) = decide (t.extract 8 10 = t.extract 10 12) := by
    rw [Bool.eq_iff_iff]; simp [again_iff t h]
  have hs : decide ((t.size : Int) - (22 : Nat) = numL t 20 2) = decide ((t.size : Int) = 22 + numL t 20 2) := by
    rw [Bool.eq_iff_iff]; simp; omega
  simp only [hb, ha, hs, Bool.not_false, Bool.and_true]
def endW (t : ByteArray) : Value := if okR t then .tuple #[.agg #[.int .i64 (numL t 8 2), .int .i64 (numL t 12 4), .int .i64 (numL t 16 4), .int .i64 (numL t 20 2)], .bool true] else .tuple #[.agg #[.int .i64 0, .int .i64 0, .int .i64 0, .int .i64 0], .bool false]
theorem end_eq (t : ByteArray) (h : 22 ≤ t.size) : endV t = endW t := by
  obtain ⟨⟨v0, v1, v2, v3⟩, v4, v5, v6, e7⟩ := ok_chain t h
  unfold endV endW
  rw [ok_eq t h, v2, v4, v5, v6]
end Go.Proofs.Ythmlfeaoaanmoaa
