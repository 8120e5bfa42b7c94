/- The plain law of lz.Match: what its rounds do to the tokens. -/
import Derived.Test.YthmlfeaoaanmoaaLzBestG
import Derived.Test.YthmlfeaoaanmoaaLzExp
set_option linter.unusedVariables false
set_option linter.unusedSimpArgs false
namespace Go.Proofs.Ythmlfeaoaanmoaa
open Go Go.RowKit
open Sw
theorem lg_at (s : ByteArray) (k : Nat) : ∀ (f a i : Nat), i < lg s k a f → ∃ h : a + i < s.size, s[a + i] = s[a + i - k]'(by omega)
  | 0, a, i, h => by simp [lg] at h
  | f + 1, a, i, h => by
    rw [lg] at h
    split at h
    · rename_i ha
      split at h
      · rename_i he
        cases i with
        | zero => exact ⟨ha, he⟩
        | succ i =>
          obtain ⟨h1, h2⟩ := lg_at s k f (a + 1) i (by omega)
          exact ⟨by omega, by
            have e1 : a + 1 + i = a + (i + 1) := by omega
            simp only [e1] at h2
            exact h2⟩
      · omega
    · omega
/-- all bytes are alike -/
def Alike (s : ByteArray) : Prop := ∀ i j (hi : i < s.size) (hj : j < s.size), s[i] = s[j]
set_option maxRecDepth 10000 in
theorem lg_alike (s : ByteArray) (k : Nat) (hA : Alike s) : ∀ (f a : Nat), lg s k a f = min f (s.size - a)
  | 0, a => by simp [lg]
  | f + 1, a => by
    rw [lg]
    split
    · rename_i ha
      rw [if_pos (hA a (a - k) ha (by omega)), lg_alike s k hA f (a + 1)]
      omega
    · omega
theorem expT_nil (out : List UInt8) : expT [] out = some out := rfl
theorem expT_cons (t : Tk) (ts : List Tk) (out : List UInt8) : expT (t :: ts) out = if fitsT t out.length = true then expT ts (stepTk t out) else none := rfl
theorem expT_snoc (t : Tk) (ts : List Tk) : ∀ (out mid : List UInt8), expT ts out = some mid → fitsT t mid.length = true → expT (ts ++ [t]) out = some (stepTk t mid) := by
  induction ts with
  | nil =>
    intro out mid h hf
    rw [expT_nil] at h
    injection h with h
    subst h
    rw [List.nil_append, expT_cons, if_pos hf, expT_nil]
  | cons u ts ih =>
    intro out mid h hf
    rw [List.cons_append, expT_cons]
    rw [expT_cons] at h
    by_cases hu : fitsT u out.length = true
    · rw [if_pos hu] at h ⊢
      exact ih _ _ h hf
    · rw [if_neg hu] at h
      cases h
theorem take_len (s : ByteArray) (a : Nat) (h : a ≤ s.size) : (s.data.toList.take a).length = a := by
  rw [List.length_take]
  have : s.data.toList.length = s.size := by simp
  omega
theorem take_at (s : ByteArray) (a : Nat) (h : a < s.size) : s.data.toList.take (a + 1) = s.data.toList.take a ++ [s[a]] := by
  rw [List.take_succ_eq_append_getElem (by simpa using h)]
  rfl
theorem copy_take (s : ByteArray) (B a : Nat) (h1 : 1 ≤ B) (hB : B ≤ a) (ha : a ≤ s.size) : ∀ i, i ≤ lg s B a 258 → copyN (s.data.toList.take a) B i = s.data.toList.take (a + i)
  | 0, _ => rfl
  | i + 1, hi => by
    obtain ⟨hlt, he⟩ := lg_at s B 258 a i (by omega)
    rw [copyN, copy_take s B a h1 hB ha i (by omega), take_len s (a + i) (by omega), ← Nat.add_assoc, take_at s (a + i) hlt]
    congr 1
    congr 1
    rw [List.getD_eq_getElem?_getD, List.getElem?_take, if_pos (by omega), he]
    rw [List.getElem?_eq_getElem (by simp; omega)]
    rfl
theorem byteT_lit (b : UInt8) : byteT (litT b) = b := by
  unfold byteT litT
  simp
/-- what the tokens are behind so many bytes -/
structure MInv (s : ByteArray) (at_ : Nat) (ts : List Tk) (kn : Bool) : Prop where
  lens : at_ ≤ s.size
  exp : expT ts [] = some (s.data.toList.take at_)
  len : ts.length ≤ at_
  tin : ∀ t ∈ ts, TkIn t
  pos : 0 < at_ → 0 < ts.length
  one : Alike s → kn = false ∧ (2 * ts.length ≤ at_ + 1 ∨ (s.size ≤ at_ + 2 ∧ 2 * ts.length + s.size ≤ 2 * at_ + 3))
/-- the copy that a round takes -/
structure TOk (s : ByteArray) (at_ L B : Nat) : Prop where
  cp : CpOk s at_ L B
  big : L = 0 ∨ 3 ≤ L
  one : Alike s → at_ = 0 ∨ s.size ≤ at_ + 2 ∨ min 258 (s.size - at_) ≤ L
theorem MInv.start (s : ByteArray) : MInv s 0 [] false := ⟨Nat.zero_le _, by simp [expT], Nat.le_refl _, by simp, fun h => by omega, fun _ => ⟨rfl, .inl (by simp)⟩⟩
theorem CpOk.fit {s : ByteArray} {a L B : Nat} (h : CpOk s a L B) (hs : a ≤ s.size) (hL : 3 ≤ L) : 1 ≤ B ∧ B ≤ a ∧ B ≤ 32768 ∧ L ≤ lg s B a 258 ∧ L ≤ 258 ∧ a + L ≤ s.size := by
  rcases h with ⟨h, _⟩ | ⟨h1, h2, h3, h4⟩
  · omega
  · have h5 := lg_le s B 258 a
    have h6 := lg_in s B 258 a hs
    exact ⟨h1, h2, h3, h4, by omega, by omega⟩
theorem CpOk.le {s : ByteArray} {a L B : Nat} (h : CpOk s a L B) (hs : a ≤ s.size) : L ≤ 258 ∧ a + L ≤ s.size ∧ B ≤ 32768 := by
  rcases h with ⟨h, h'⟩ | ⟨h1, h2, h3, h4⟩
  · omega
  · have h5 := lg_le s B 258 a
    have h6 := lg_in s B 258 a hs
    omega
theorem MInv.lit {s : ByteArray} {at_ : Nat} {ts : List Tk} {kn kn' : Bool} (h : MInv s at_ ts kn) (hlt : at_ < s.size) (hs : s.size ≤ 65000) (hk : Alike s → kn' = false ∧ (at_ = 0 ∨ s.size ≤ at_ + 2)) : MInv s (at_ + 1) (ts ++ [litT s[at_]]) kn' := by
  refine ⟨hlt, ?_, by rw [List.length_append, List.length_singleton]; have := h.len; omega, fun t ht => ?_, fun _ => by simp, fun hA => ?_⟩
  · have hf : fitsT (litT s[at_]) (s.data.toList.take at_).length = true := by
      rw [take_len s at_ h.lens]
      unfold fitsT litT
      simp
      omega
    rw [expT_snoc _ _ _ _ h.exp hf, take_at s at_ hlt]
    unfold stepTk
    rw [if_pos (show (litT s[at_]).long = 0 from rfl), byteT_lit]
  · rw [List.mem_append, List.mem_singleton] at ht
    rcases ht with ht | rfl
    · exact h.tin t ht
    · have := s[at_].toNat_lt
      exact ⟨by unfold litT; simp, by unfold litT; simp only; omega⟩
  · obtain ⟨h1, h2⟩ := hk hA
    obtain ⟨_, h3⟩ := h.one hA
    have := h.len
    rw [List.length_append, List.length_singleton]
    refine ⟨h1, ?_⟩
    rcases h2 with rfl | h2
    · left; omega
    · right; omega
theorem MInv.copy {s : ByteArray} {at_ L B : Nat} {ts : List Tk} {kn : Bool} (h : MInv s at_ ts kn) (hs : s.size ≤ 65000) (hT : TOk s at_ L B) (hL : 3 ≤ L) : MInv s (at_ + L) (ts ++ [⟨0, L, B⟩]) false := by
  obtain ⟨c1, c2, c3, c4, c5, c6⟩ := hT.cp.fit h.lens hL
  refine ⟨c6, ?_, by rw [List.length_append, List.length_singleton]; have := h.len; omega, fun t ht => ?_, fun _ => by simp, fun hA => ⟨rfl, ?_⟩⟩
  · have hf : fitsT ⟨0, L, B⟩ (s.data.toList.take at_).length = true := by
      rw [take_len s at_ h.lens]
      unfold fitsT
      simp only [decide_eq_true_eq]
      rw [if_neg (by omega)]
      exact ⟨trivial, by omega, by omega, by omega, by omega, by omega, by omega⟩
    rw [expT_snoc _ _ _ _ h.exp hf]
    unfold stepTk
    rw [if_neg (show ¬ ((L : Int) = 0) by omega)]
    exact congrArg some (copy_take s B at_ c1 c2 h.lens L c4)
  · rw [List.mem_append, List.mem_singleton] at ht
    rcases ht with ht | rfl
    · exact h.tin t ht
    · exact ⟨by simp, by simp⟩
  · obtain ⟨_, h3⟩ := h.one hA
    rw [List.length_append, List.length_singleton]
    left
    omega
theorem TOk.best {s : ByteArray} {a L B : Nat} (hc : CpOk s a L B) (hb : L = 0 ∨ 3 ≤ L)
    (hl : a + 2 < s.size → 1 ≤ a → s[a - 1]? = s[a]? → s[a]? = s[a + 1]? → s[a + 1]? = s[a + 2]? → a - (a - 1) ≤ 32768 → lg s (a - (a - 1)) a 258 ≤ L ∨ lg s (a - (a - 1)) a 258 < 3) : TOk s a L B := by
  refine ⟨hc, hb, fun hA => ?_⟩
  by_cases h0 : a = 0
  · exact .inl h0
  by_cases h2 : s.size ≤ a + 2
  · exact .inr (.inl h2)
  have hA' : ∀ i j, i < s.size → j < s.size → s[i]? = s[j]? := fun i j hi hj => by
    rw [getElem?_pos s i hi, getElem?_pos s j hj, hA i j hi hj]
  have := hl (by omega) (by omega) (hA' _ _ (by omega) (by omega)) (hA' _ _ (by omega) (by omega)) (hA' _ _ (by omega) (by omega)) (by omega)
  rw [lg_alike s _ hA] at this
  right; right
  omega
theorem TOk.next {s : ByteArray} {a L B : Nat} {ts : List Tk} (h : MInv s a ts true) (hc : CpOk s a L B) (hb : 3 ≤ L) : TOk s a L B :=
  ⟨hc, .inr hb, fun hA => absurd (h.one hA).1 (by simp)⟩
theorem TOk.none {s : ByteArray} {a B : Nat} (h : TOk s a 0 B) (hlt : a < s.size) : Alike s → a = 0 ∨ s.size ≤ a + 2 := fun hA => by
  rcases h.one hA with h | h | h
  · exact .inl h
  · exact .inr h
  · omega
theorem TOk.look {s : ByteArray} {a L B L' B' : Nat} (h : TOk s a L B) (ha : a + 1 < s.size) (hL : 3 ≤ L) (hc : CpOk s (a + 1) L' B') (hlt : L < L') : ¬ Alike s := fun hA => by
  have h1 := hc.le (by omega)
  obtain ⟨c1, c2, c3, c4, c5, c6⟩ := h.cp.fit (by omega) hL
  rcases h.one hA with h | h | h <;> omega
end Go.Proofs.Ythmlfeaoaanmoaa
