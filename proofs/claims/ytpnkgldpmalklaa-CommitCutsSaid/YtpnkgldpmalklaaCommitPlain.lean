/- Plain laws of layer 25: a mark's sector; with one byte turned it is none. No program in sight. -/
import Derived.Test.YtpnkgldpmalklaaFieldPlain
import Derived.Test.YtpnkgldpmalklaaSumPlain
set_option linter.unusedVariables false
namespace Sw
theorem stp_ker (z : Nat) (hz : z < 2 ^ 32) (h : stp z = 0) : z = 0 := by
  unfold stp at h
  split at h
  · rename_i ho
    have : z / 2 = poly := by
      have h2 : (z / 2 ^^^ poly) ^^^ poly = 0 ^^^ poly := by rw [h]
      rw [Nat.xor_assoc, Nat.xor_self, Nat.xor_zero, Nat.zero_xor] at h2
      exact h2
    unfold poly at this
    omega
  · rename_i ho
    omega
theorem xor_eq_zero' {a b : Nat} (h : a ^^^ b = 0) : a = b := by
  have h2 : (a ^^^ b) ^^^ b = 0 ^^^ b := by rw [h]
  rw [Nat.xor_assoc, Nat.xor_self, Nat.xor_zero, Nat.zero_xor] at h2
  exact h2
theorem stp_inj (a b : Nat) (ha : a < 2 ^ 32) (hb : b < 2 ^ 32) (h : stp a = stp b) : a = b := by
  apply xor_eq_zero'
  apply stp_ker _ (Nat.xor_lt_two_pow ha hb)
  rw [stp_xor, h, Nat.xor_self]
theorem stpN_inj (k a b : Nat) (ha : a < 2 ^ 32) (hb : b < 2 ^ 32) (h : stpN k a = stpN k b) : a = b := by
  induction k generalizing a b with
  | zero => exact h
  | succ k ih => exact ih a b ha hb (stp_inj _ _ (stpN_lt k a ha) (stpN_lt k b hb) h)
theorem byteS_inj_state (s s' b : Nat) (hs : s < 2 ^ 32) (hs' : s' < 2 ^ 32) (hb : b < 2 ^ 32) (h : byteS s b = byteS s' b) : s = s' := by
  rw [byteS_def, byteS_def] at h
  have := stpN_inj 8 _ _ (Nat.xor_lt_two_pow hs hb) (Nat.xor_lt_two_pow hs' hb) h
  have h2 := congrArg (· ^^^ b) this
  simpa [Nat.xor_assoc] using h2
theorem byteS_inj_byte (s b b' : Nat) (hs : s < 2 ^ 32) (hb : b < 2 ^ 32) (hb' : b' < 2 ^ 32) (h : byteS s b = byteS s b') : b = b' := by
  rw [byteS_def, byteS_def] at h
  have := stpN_inj 8 _ _ (Nat.xor_lt_two_pow hs hb) (Nat.xor_lt_two_pow hs hb') h
  have h2 := congrArg (s ^^^ ·) this
  simpa [← Nat.xor_assoc] using h2
theorem feedS_inj (l : List UInt8) : ∀ (s s' : Nat), s < 2 ^ 32 → s' < 2 ^ 32 → feedS s l = feedS s' l → s = s' := by
  induction l with
  | nil => intro s s' _ _ h; exact h
  | cons b r ih =>
    intro s s' hs hs' h
    have hb := b.toNat_lt
    rw [feedS_cons, feedS_cons] at h
    exact byteS_inj_state s s' b.toNat hs hs' (by omega) (ih _ _ (byteS_lt _ _ hs (by omega)) (byteS_lt _ _ hs' (by omega)) h)
theorem feedS_set (l : List UInt8) : ∀ (s i : Nat) (y : UInt8) (hi : i < l.length), s < 2 ^ 32 → y ≠ l[i] → feedS s (l.set i y) ≠ feedS s l := by
  induction l with
  | nil => intro s i y hi; simp at hi
  | cons b r ih =>
    intro s i y hi hs hy
    have hb := b.toNat_lt
    have hyl := y.toNat_lt
    cases i with
    | zero =>
      rw [List.set_cons_zero, feedS_cons, feedS_cons]
      intro h
      have := feedS_inj r _ _ (byteS_lt _ _ hs (by omega)) (byteS_lt _ _ hs (by omega)) h
      have := byteS_inj_byte s _ _ hs (by omega) (by omega) this
      exact hy (UInt8.toNat_inj.1 this)
    | succ i =>
      rw [List.set_cons_succ, feedS_cons, feedS_cons]
      exact ih _ i y (by simpa using hi) (byteS_lt _ _ hs (by omega)) (by simpa using hy)
/-- the bytes that a mark begins with -/
def beginL : List UInt8 := [83, 87, 73, 78, 71, 76, 69, 49]
def mOk (t l : Int) : Bool := decide (0 ≤ t ∧ t ≤ 1099511627776 ∧ 534 ≤ l ∧ l ≤ 4194304)
def headL (t l : Nat) : List UInt8 := beginL ++ putL t 8 ++ putL l 8
def crcL (t l : Nat) : List UInt8 := headL t l ++ putL (ofS (headL t l)) 4
def markL (t l : Nat) : List UInt8 := crcL t l ++ List.replicate 484 0
theorem headL_len (t l : Nat) : (headL t l).length = 24 := by simp [headL, beginL, putL_length]
theorem crcL_len (t l : Nat) : (crcL t l).length = 28 := by simp [crcL, headL_len, putL_length]
theorem markL_len (t l : Nat) : (markL t l).length = 512 := by unfold markL; rw [List.length_append, crcL_len, List.length_replicate]
theorem ofS_lt32 (l : List UInt8) : ofS l < 4294967296 := by unfold ofS; omega
theorem putL_inj (a b k : Nat) (ha : a < 256 ^ k) (hb : b < 256 ^ k) (h : putL a k = putL b k) : a = b := by
  have := congrArg leN h
  rw [leN_putL, leN_putL, Nat.mod_eq_of_lt ha, Nat.mod_eq_of_lt hb] at this
  exact this
theorem ofS_inj (a b : List UInt8) (h : ofS a = ofS b) : feedS 4294967295 a = feedS 4294967295 b := by
  have h1 := feedS_lt a 4294967295 (by decide)
  have h2 := feedS_lt b 4294967295 (by decide)
  unfold ofS at h
  omega
theorem headL_inj (t l t' l' : Nat) (ht : t < 256 ^ 8) (hl : l < 256 ^ 8) (ht' : t' < 256 ^ 8) (hl' : l' < 256 ^ 8) (h : headL t l = headL t' l') : t = t' ∧ l = l' := by
  unfold headL at h
  have h1 := List.append_inj h (by simp [putL_length])
  have h2 := List.append_inj h1.1 rfl
  exact ⟨putL_inj _ _ 8 ht ht' h2.2, putL_inj _ _ 8 hl hl' h1.2⟩
theorem markL_inj (t l t' l' : Nat) (ht : t < 256 ^ 8) (hl : l < 256 ^ 8) (ht' : t' < 256 ^ 8) (hl' : l' < 256 ^ 8) (h : markL t l = markL t' l') : t = t' ∧ l = l' := by
  have h1 := (List.append_inj h (by rw [crcL_len, crcL_len])).1
  exact headL_inj t l t' l' ht hl ht' hl' (List.append_inj h1 (by rw [headL_len, headL_len])).1
theorem no_turn (t l t' l' i : Nat) (y : UInt8) (ht : t < 256 ^ 8) (hl : l < 256 ^ 8) (ht' : t' < 256 ^ 8) (hl' : l' < 256 ^ 8) (hi : i < (markL t l).length) (hy : y ≠ (markL t l)[i]) (h : (markL t l).set i y = markL t' l') : False := by
  have hlen := markL_len t l
  unfold markL at h
  by_cases h28 : i < 28
  · have hc : i < (crcL t l).length := by rw [crcL_len]; exact h28
    rw [List.set_append_left _ _ hc] at h
    have h1 := (List.append_inj h (by rw [List.length_set, crcL_len, crcL_len])).1
    have hy1 : y ≠ (crcL t l)[i] := by
      intro e; exact hy (e.trans (List.getElem_append_left (as := crcL t l) (bs := List.replicate 484 0) hc).symm)
    clear h hy hi
    unfold crcL at h1
    by_cases h24 : i < 24
    · have hc2 : i < (headL t l).length := by rw [headL_len]; exact h24
      rw [List.set_append_left _ _ hc2] at h1
      have h2 := List.append_inj h1 (by rw [List.length_set, headL_len, headL_len])
      have hy2 : y ≠ (headL t l)[i] := by
        intro e; exact hy1 (e.trans (List.getElem_append_left (as := headL t l) (bs := putL (ofS (headL t l)) 4) hc2).symm)
      have e := putL_inj _ _ 4 (ofS_lt32 _) (ofS_lt32 _) h2.2
      rw [← h2.1] at e
      exact feedS_set _ _ i y hc2 (by decide) hy2 (ofS_inj _ _ e).symm
    · have hc2 : (headL t l).length ≤ i := by rw [headL_len]; omega
      rw [List.set_append_right _ _ hc2] at h1
      have h2 := List.append_inj h1 (by rw [headL_len, headL_len])
      obtain ⟨rfl, rfl⟩ := headL_inj t l t' l' ht hl ht' hl' h2.1
      have h3 := h2.2
      have hi4 : i - (headL t l).length < (putL (ofS (headL t l)) 4).length := by rw [headL_len, putL_length]; omega
      have h4 : ((putL (ofS (headL t l)) 4).set (i - (headL t l).length) y)[i - (headL t l).length]'(by rw [List.length_set]; exact hi4) = (putL (ofS (headL t l)) 4)[i - (headL t l).length] := by
        congr 1
      rw [List.getElem_set_self] at h4
      exact hy1 (h4.trans (List.getElem_append_right (as := headL t l) (bs := putL (ofS (headL t l)) 4) hc2).symm)
  · have hc : (crcL t l).length ≤ i := by rw [crcL_len]; omega
    rw [List.set_append_right _ _ hc] at h
    have h1 := List.append_inj h (by rw [crcL_len, crcL_len])
    have hi4 : i - (crcL t l).length < (List.replicate 484 (0 : UInt8)).length := by rw [crcL_len, List.length_replicate]; omega
    have h4 : ((List.replicate 484 (0 : UInt8)).set (i - (crcL t l).length) y)[i - (crcL t l).length]'(by rw [List.length_set]; exact hi4) = (List.replicate 484 (0 : UInt8))[i - (crcL t l).length] := by
      have := h1.2
      congr 1
    rw [List.getElem_set_self] at h4
    exact hy (h4.trans (List.getElem_append_right (as := crcL t l) (bs := List.replicate 484 0) hc).symm)
end Sw
