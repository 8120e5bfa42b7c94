/- Plain laws of layer 2: the states behind many noughts, by bits. No program in sight. -/
import Derived.Test.YthdmajhhioiaoaaSumPlain
set_option linter.unusedVariables false
namespace Sw
/-- a map of states that keeps exclusive-or, and the width -/
structure Lin (f : Nat → Nat) : Prop where
  xor : ∀ a b, f (a ^^^ b) = f a ^^^ f b
  lt : ∀ a, a < 4294967296 → f a < 4294967296
theorem Lin.zero {f : Nat → Nat} (h : Lin f) : f 0 = 0 := by
  have e := h.xor 0 0
  rw [Nat.xor_self, Nat.xor_self] at e
  exact e
theorem Lin.stpN (k : Nat) : Lin (stpN k) := ⟨stpN_xor k, fun a h => stpN_lt k a h⟩
theorem Lin.comp {f g : Nat → Nat} (h : Lin f) (k : Lin g) : Lin (fun x => f (g x)) := ⟨fun a b => by rw [k.xor, h.xor], fun a ha => h.lt _ (k.lt a ha)⟩
theorem stpN_add (a b x : Nat) : stpN (a + b) x = stpN a (stpN b x) := by
  induction a with
  | zero => rw [Nat.zero_add, stpN]
  | succ a ih => rw [Nat.succ_add, stpN, stpN, ih]
theorem mod_succ_odd (s i : Nat) (h : s / 2 ^ i % 2 = 1) : s % 2 ^ (i + 1) = 2 ^ i ^^^ (s % 2 ^ i) := by
  have hm : s % 2 ^ i < 2 ^ i := Nat.mod_lt _ (Nat.two_pow_pos i)
  rw [Nat.mod_pow_succ, h, Nat.mul_one, Nat.add_comm]
  have e := Nat.two_pow_add_eq_or_of_lt (i := i) (b := s % 2 ^ i) hm 1
  rw [Nat.mul_one] at e
  rw [e]
  apply Nat.eq_of_testBit_eq
  intro j
  rw [Nat.testBit_or, Nat.testBit_xor, Nat.testBit_two_pow]
  by_cases hj : i = j
  · subst hj
    simp [Nat.testBit_lt_two_pow hm]
  · simp [hj]
theorem mod_succ_even (s i : Nat) (h : ¬ s / 2 ^ i % 2 = 1) : s % 2 ^ (i + 1) = s % 2 ^ i := by
  have h0 : s / 2 ^ i % 2 = 0 := by omega
  rw [Nat.mod_pow_succ, h0, Nat.mul_zero, Nat.add_zero]
theorem times_odd {f : Nat → Nat} (hf : Lin f) (s i : Nat) (h : s / 2 ^ i % 2 = 1) : f (s % 2 ^ (i + 1)) = f (s % 2 ^ i) ^^^ f (2 ^ i) := by
  rw [mod_succ_odd s i h, hf.xor, Nat.xor_comm]
theorem noughtByte (s : Nat) : byteS s 0 = stpN 8 s := by rw [byteS_def, Nat.xor_zero]
theorem feedS_xor (l : List UInt8) : ∀ (s x : Nat), feedS (s ^^^ x) l = feedS s l ^^^ stpN (8 * l.length) x := by
  induction l with
  | nil => intro s x; simp [feedS, stpN]
  | cons b l ih =>
    intro s x
    rw [feedS_cons, feedS_cons, byteS_def, byteS_def, Nat.xor_assoc, Nat.xor_comm x, ← Nat.xor_assoc, stpN_xor, ih, List.length_cons, Nat.mul_add, stpN_add (8 * l.length) (8 * 1)]
theorem ofS_eq (l : List UInt8) : ofS l = feedS 4294967295 l ^^^ 4294967295 := not_xor _ (feedS_lt l _ (by omega))
theorem ofS_append (s u : List UInt8) : stpN (8 * u.length) (ofS s) ^^^ ofS u = ofS (s ++ u) := by
  have h : feedS 4294967295 (s ++ u) = feedS 4294967295 u ^^^ stpN (8 * u.length) (ofS s) := by
    rw [feedS_append, ← feedS_xor]
    congr 1
    rw [ofS_eq, Nat.xor_comm (feedS _ _), ← Nat.xor_assoc, Nat.xor_self, Nat.zero_xor]
  rw [ofS_eq (s ++ u), h, ofS_eq u]
  generalize feedS 4294967295 u = U
  generalize stpN (8 * u.length) (ofS s) = A
  rw [Nat.xor_comm U A, Nat.xor_assoc]
/-- how many noughts are gone by -/
def noughts (n : Int) : Nat := (max 0 (min n 2147483648)).toNat
def joinS (a b : Nat) (n : Int) : Nat := stpN (8 * noughts n) a ^^^ b
theorem two_pow_lt (i : Nat) (h : i < 32) : 2 ^ i < 4294967296 := Nat.pow_lt_pow_of_lt (a := 2) (by omega) (show i < 32 from h)
/-! exclusive-or of texts -/
def xorL : List UInt8 → List UInt8 → List UInt8
  | a :: l, b :: m => (a ^^^ b) :: xorL l m
  | _, _ => []
theorem byteS_xor (s t a b : Nat) : byteS (s ^^^ t) (a ^^^ b) = byteS s a ^^^ byteS t b := by
  rw [byteS_def, byteS_def, byteS_def, ← stpN_xor]
  congr 1
  rw [Nat.xor_assoc, Nat.xor_assoc, ← Nat.xor_assoc t, Nat.xor_comm t a, Nat.xor_assoc]
theorem feedS_xorL (l : List UInt8) : ∀ (m : List UInt8) (s t : Nat), l.length = m.length → feedS (s ^^^ t) (xorL l m) = feedS s l ^^^ feedS t m := by
  induction l with
  | nil =>
    intro m s t h
    match m, h with
    | [], _ => rfl
  | cons a l ih =>
    intro m s t h
    match m, h with
    | b :: m, h =>
      rw [xorL, feedS_cons, feedS_cons, feedS_cons, UInt8.toNat_xor, byteS_xor, ih m _ _ (by simpa using h)]
theorem feedS_zeros (n : Nat) : ∀ s, feedS s (List.replicate n 0) = stpN (8 * n) s := by
  induction n with
  | zero => intro s; simp [feedS, stpN]
  | succ n ih =>
    intro s
    rw [List.replicate_succ, feedS_cons, ih]
    show stpN (8 * n) (byteS s 0) = _
    rw [noughtByte, Nat.mul_add, stpN_add]
theorem ofS_three (l m : List UInt8) (h : l.length = m.length) : ofS (xorL l m) = ofS l ^^^ ofS m ^^^ ofS (List.replicate l.length 0) := by
  have e := feedS_xorL l m 4294967295 4294967295 h
  rw [Nat.xor_self] at e
  have e2 := feedS_xor (xorL l m) 0 4294967295
  rw [Nat.zero_xor, e] at e2
  have hl : (xorL l m).length = l.length := by
    clear e e2
    induction l generalizing m with
    | nil => rfl
    | cons a l ih =>
      match m, h with
      | b :: m, h => rw [xorL, List.length_cons, List.length_cons, ih m (by simpa using h)]
  rw [ofS_eq (xorL l m), ofS_eq l, ofS_eq m, ofS_eq (List.replicate _ _), feedS_zeros, e2, hl]
  have hx : ∀ x y : Nat, x ^^^ y ^^^ y = x := fun x y => by rw [Nat.xor_assoc, Nat.xor_self, Nat.xor_zero]
  generalize feedS 4294967295 l = a
  generalize feedS 4294967295 m = b
  generalize stpN (8 * l.length) 4294967295 = c
  rw [Nat.xor_comm b 4294967295, ← Nat.xor_assoc (a ^^^ _), hx, ← Nat.xor_assoc]
/-! another byte makes another state -/
theorem stp_inj (x y : Nat) (hx : x < 4294967296) (hy : y < 4294967296) (h : stp x = stp y) : x = y := by
  have hz : stp (x ^^^ y) = 0 := by rw [stp_xor, h, Nat.xor_self]
  have hl : x ^^^ y < 4294967296 := Nat.xor_lt_two_pow (n := 32) hx hy
  have h0 : x ^^^ y = 0 := by
    generalize x ^^^ y = z at *
    unfold stp at hz
    split at hz
    · have h1 : z / 2 = poly := by
        have := congrArg (· ^^^ poly) hz
        rw [Nat.xor_assoc, Nat.xor_self, Nat.xor_zero, Nat.zero_xor] at this
        exact this
      unfold poly at h1
      omega
    · omega
  have := congrArg (· ^^^ y) h0
  rw [Nat.xor_assoc, Nat.xor_self, Nat.xor_zero, Nat.zero_xor] at this
  exact this
theorem stpN_inj (k : Nat) : ∀ (x y : Nat), x < 4294967296 → y < 4294967296 → stpN k x = stpN k y → x = y := by
  induction k with
  | zero => intro x y _ _ h; exact h
  | succ k ih => intro x y hx hy h; exact ih x y hx hy (stp_inj _ _ (stpN_lt k x hx) (stpN_lt k y hy) h)
theorem xor_left_inj (a b c : Nat) (h : a ^^^ b = a ^^^ c) : b = c := by
  have := congrArg (a ^^^ ·) h
  rw [← Nat.xor_assoc, ← Nat.xor_assoc, Nat.xor_self, Nat.zero_xor, Nat.zero_xor] at this
  exact this
theorem byteS_inj (s a b : Nat) (hs : s < 4294967296) (ha : a < 256) (hb : b < 256) (h : byteS s a = byteS s b) : a = b := by
  rw [byteS_def, byteS_def] at h
  exact xor_left_inj s a b (stpN_inj 8 _ _ (Nat.xor_lt_two_pow (n := 32) hs (by omega)) (Nat.xor_lt_two_pow (n := 32) hs (by omega)) h)
theorem feedS_inj (l : List UInt8) (s t : Nat) (hs : s < 4294967296) (ht : t < 4294967296) (h : feedS s l = feedS t l) : s = t := by
  have e : feedS t l = feedS s l ^^^ stpN (8 * l.length) (s ^^^ t) := by
    rw [← feedS_xor, ← Nat.xor_assoc, Nat.xor_self, Nat.zero_xor]
  rw [h] at e
  have e2 : stpN (8 * l.length) (s ^^^ t) = stpN (8 * l.length) 0 := by
    rw [stpN_zero]
    have e3 : feedS t l ^^^ 0 = feedS t l ^^^ stpN (8 * l.length) (s ^^^ t) := by rw [Nat.xor_zero]; exact e
    exact (xor_left_inj _ _ _ e3).symm
  have h0 := stpN_inj _ _ _ (Nat.xor_lt_two_pow (n := 32) hs ht) (by omega) e2
  have := congrArg (· ^^^ t) h0
  rw [Nat.xor_assoc, Nat.xor_self, Nat.xor_zero, Nat.zero_xor] at this
  exact this
theorem ofS_other (l : List UInt8) (k : Nat) (b : UInt8) (h : k < l.length) (hb : b ≠ l[k]) : ofS (l.set k b) ≠ ofS l := by
  intro e
  rw [ofS_eq, ofS_eq, Nat.xor_comm, Nat.xor_comm (feedS _ l)] at e
  have e := xor_left_inj _ _ _ e
  have hl : l = l.take k ++ l[k] :: l.drop (k + 1) := by rw [← List.drop_eq_getElem_cons h, List.take_append_drop]
  have hset : l.set k b = l.take k ++ b :: l.drop (k + 1) := by
    rw [List.set_eq_take_append_cons_drop, if_pos h]
  rw [hset] at e
  rw [show feedS 4294967295 l = feedS 4294967295 (l.take k ++ l[k] :: l.drop (k + 1)) from congrArg _ hl] at e
  rw [feedS_append, feedS_append, feedS_cons, feedS_cons] at e
  have hx := feedS_lt (l.take k) 4294967295 (by omega)
  have h1 := feedS_inj _ _ _ (byteS_lt _ _ hx (by have := b.toNat_lt; omega)) (byteS_lt _ _ hx (by have := l[k].toNat_lt; omega)) e
  exact hb (UInt8.toNat_inj.1 (byteS_inj _ _ _ hx b.toNat_lt l[k].toNat_lt h1))
end Sw
