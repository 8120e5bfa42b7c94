/- Contracts of field.Reader.Num, of the reference's Text and Num, and of field.Read. -/
import Derived.Test.YthmlfeaoaanmoaaFieldText
set_option linter.unusedVariables false
namespace Go.Proofs.Ythmlfeaoaanmoaa
open Go.RowKit
open Sw
/-- a number that is too wide is none -/
def wd (n : Int) : Int := if 8 < n then -1 else n
def rdNum (s : ByteArray) (p : Nat) (bad : Bool) (n : Int) : Nat := leN (rdText s p bad (wd n)).data.toList
theorem rdText_size (s : ByteArray) (p : Nat) (bad : Bool) (n : Int) : (canRead s p bad n = true → ((rdText s p bad n).size : Int) = n) ∧ (canRead s p bad n = false → (rdText s p bad n).size = 0) := by
  constructor
  · intro h
    rw [rdText, if_pos h]
    simp [canRead] at h
    obtain ⟨⟨h1, h2⟩, h3⟩ := h
    obtain ⟨m, rfl⟩ := Int.eq_ofNat_of_zero_le h2
    simp [ByteArray.size_extract]
    omega
  · intro h
    rw [rdText, if_neg (by simp [h])]
    rfl
theorem rdText_le (s : ByteArray) (p : Nat) (bad : Bool) (n : Int) (hs : s.size ≤ maxLen) : (rdText s p bad n).size ≤ maxLen := by
  unfold rdText
  split
  · rw [ByteArray.size_extract]; omega
  · show 0 ≤ maxLen; omega
set_option maxHeartbeats 400000 in
theorem rdNum_nil (w : World) (n : Int) (hn : n = 1) : Calls Try.prog 67 #[.pointer none, .int .i64 n] w fun e w' => e = .returned (.int .u64 0) ∧ w = w' := by
  subst hn
  go_enter Try.func67, Try.ntmps67
  go_wp2_with (first | (go_at_call 82; refine (rdText_nil _ _).mono ?_; rintro e w' ⟨rfl, rfl⟩) | (go_at_call 81; refine (fieldGet_no ⟨#[]⟩ _ _ (by show 0 ≤ maxLen; omega) (by right; right; show (0 : Int) < _; omega)).mono ?_; rintro e w' ⟨rfl, rfl⟩))
  go_ret
  exact ⟨rfl, rfl⟩
theorem get_any (t : ByteArray) (v : Int) (w : World) (ht : t.size ≤ maxLen) (hv : 0 ≤ v → v ≤ 8) (h : (t.size : Int) = v ∨ t.size = 0) :
    Calls Try.prog 81 #[.string t, .int .i64 (max v 0)] w fun e w' => ∃ b, e = .returned (.tuple #[.int .u64 (leN t.data.toList : Nat), .bool b]) ∧ w = w' := by
  by_cases hy : max v 0 ≤ t.size
  · have hm : max v 0 = (((max v 0).toNat : Nat) : Int) := by omega
    have e : t.data.toList.take (max v 0).toNat = t.data.toList := by
      refine List.take_of_length_le ?_
      have : t.data.toList.length = t.size := by simp
      omega
    rw [hm]
    exact (fieldGet_yes t (max v 0).toNat w ht (by omega) (by omega)).mono fun e' w' ⟨h1, h2⟩ => ⟨true, by rw [e] at h1; exact h1, h2⟩
  · have h0 : t.size = 0 := by omega
    have e : leN t.data.toList = 0 := by
      have : t.data.toList = [] := List.eq_nil_of_length_eq_zero (by simpa using h0)
      rw [this]; rfl
    exact (fieldGet_no t (max v 0) w ht (by omega)).mono fun e' w' ⟨h1, h2⟩ => ⟨false, by rw [e]; exact h1, h2⟩
set_option maxHeartbeats 400000 in
theorem rdNum_any (w : World) (g : Nat) (s : ByteArray) (p : Nat) (bad : Bool) (n : Int) (hs : s.size ≤ maxLen) (hp : p ≤ s.size) (h : Rdr w g s p bad) :
    Calls Try.prog 67 #[.pointer (some ⟨g, 0, none⟩), .int .i64 n] w fun e w' => e = .returned (.int .u64 (rdNum s p bad n : Nat)) ∧ Rdr w' g s (rdAt s p bad (wd n)) (rdBad s p bad (wd n)) ∧ w.grownBy w' (some g) := by
  have H := Lib.hid h; clear h
  have hz := rdText_size s p bad (wd n)
  have hget := fun W => get_any (rdText s p bad (wd n)) (wd n) W (rdText_le s p bad (wd n) hs) (by unfold wd; split <;> omega) (by
    cases hc : canRead s p bad (wd n)
    · exact .inr (hz.2 hc)
    · exact .inl (hz.1 hc))
  clear hz
  have HG := Lib.hid hget; clear hget
  by_cases h8 : 8 < n
  · have e : wd n = -1 := if_pos h8
    have E := Lib.hid e; clear e
    go_enter Try.func67, Try.ntmps67
    go_wp2_with (first | (go_at_call 82; refine (rdText_any _ g s p bad _ hs hp H.out).mono ?_; rintro e w1 ⟨rfl, h1, h2⟩) | fail)
    have hg := HG.out w1
    rw [E.out] at hg
    refine hg.mono ?_
    rintro e w2 ⟨b, rfl, rfl⟩
    go_wp2
    go_ret
    unfold rdNum
    rw [E.out]
    exact ⟨rfl, h1, h2⟩
  · have e : wd n = n := if_neg h8
    have E := Lib.hid e; clear e
    go_enter Try.func67, Try.ntmps67
    go_wp2_with (first | (go_at_call 82; refine (rdText_any _ g s p bad _ hs hp H.out).mono ?_; rintro e w1 ⟨rfl, h1, h2⟩) | fail)
    have hg := HG.out w1
    rw [E.out] at hg
    refine hg.mono ?_
    rintro e w2 ⟨b, rfl, rfl⟩
    go_wp2
    go_ret
    unfold rdNum
    rw [E.out]
    exact ⟨rfl, h1, h2⟩
/-- what the reference's Get tells of the rest of a text -/
theorem refGet_rest (s : ByteArray) (p : Nat) (n : Int) (hs : s.size ≤ maxLen) (hp : p ≤ s.size) (w : World) :
    Calls Try.prog 84 #[.string (s.extract p s.size), .int .i64 n] w fun e w' => e = .returned (.tuple #[.int .u64 (rdNum s p false n : Nat), .bool (canRead s p false (wd n))]) ∧ w = w' := by
  have hsz : (s.extract p s.size).size = s.size - p := by rw [ByteArray.size_extract]; omega
  have hml : (s.extract p s.size).size ≤ maxLen := by omega
  by_cases hc : canRead s p false (wd n) = true
  · have h8 : ¬ 8 < n := by
      intro h8
      rw [wd, if_pos h8] at hc
      simp [canRead] at hc
    have ew : wd n = n := if_neg h8
    rw [hc]
    rw [ew] at hc
    have hc' := hc
    simp [canRead] at hc'
    obtain ⟨h0, h1⟩ := hc'
    obtain ⟨m, rfl⟩ := Int.eq_ofNat_of_zero_le h0
    have et : (s.extract p s.size).data.toList.take m = (rdText s p false m).data.toList := by
      rw [rdText, if_pos hc, Int.toNat_natCast]
      simp [ByteArray.data_extract, Array.toList_extract, List.extract_eq_take_drop]
      rw [List.take_take]
      congr 1
      omega
    exact (refGet_yes _ m w hml (by omega) (by omega)).mono fun e w' ⟨h1, h2⟩ => ⟨by rw [h1, rdNum, ew, et], h2⟩
  · have hc0 : canRead s p false (wd n) = false := by simpa using hc
    have e0 : rdNum s p false n = 0 := by
      rw [rdNum, rdText, if_neg hc]; rfl
    rw [hc0, e0]
    refine refGet_no _ n w hml ?_
    by_cases h8 : 8 < n
    · omega
    · rw [wd, if_neg h8] at hc0
      simp [canRead] at hc0
      omega
theorem read_any (w : World) (s : ByteArray) : Calls Try.prog 65 #[.string s] w fun e w' => e = .returned (.pointer (some ⟨w.heap.size, 0, none⟩)) ∧ w.alloc (.cells #[.string s, .int .i64 0, .bool false] 128) = w' := by
  go_enter Try.func65, Try.ntmps65
  go_wp2
  go_ret
  exact ⟨rfl, rfl⟩
end Go.Proofs.Ythmlfeaoaanmoaa
