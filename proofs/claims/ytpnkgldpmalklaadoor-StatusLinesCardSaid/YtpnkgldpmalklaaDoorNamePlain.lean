/- Plain laws of names: letters, parts, what stands between slashes. No program. -/
import Derived.Test.YtpnkgldpmalklaaDoorKit
set_option linter.unusedVariables false
set_option linter.unusedSimpArgs false
namespace Sw
open Go
def mkB (l : List UInt8) : ByteArray := ⟨l.toArray⟩
theorem mkB_data (b : ByteArray) : mkB b.data.toList = b := by
  apply ByteArray.ext
  simp [mkB]
theorem data_mkB (l : List UInt8) : (mkB l).data.toList = l := by simp [mkB]
theorem mkB_size (l : List UInt8) : (mkB l).size = l.length := by
  show l.toArray.size = l.length
  simp
/-- how many bytes a letter has that begins so; between which its second one is -/
def uN (c : Nat) : Nat := if c < 128 then 1 else if 194 ≤ c ∧ c ≤ 223 then 2 else if 224 ≤ c ∧ c ≤ 239 then 3 else if 240 ≤ c ∧ c ≤ 244 then 4 else 0
def uLo (c : Nat) : Nat := if c = 224 then 160 else if c = 240 then 144 else 128
def uHi (c : Nat) : Nat := if c = 237 then 159 else if c = 244 then 143 else 191
/-- are the bytes letters, where so many are still wanted, the next between lo and hi? -/
def utfD : Nat → Nat → Nat → List UInt8 → Bool
  | 0, _, _, [] => true
  | _ + 1, _, _, [] => false
  | 0, _, _, c :: l => if uN c.toNat = 0 then false else utfD (uN c.toNat - 1) (uLo c.toNat) (uHi c.toNat) l
  | n + 1, lo, hi, b :: l => if lo ≤ b.toNat ∧ b.toNat ≤ hi then utfD n 128 191 l else false
theorem utfD_nil (lo hi : Nat) : utfD 0 lo hi [] = true := by rw [utfD]
theorem utfD_head (lo hi : Nat) (c : UInt8) (l : List UInt8) : utfD 0 lo hi (c :: l) = if uN c.toNat = 0 then false else utfD (uN c.toNat - 1) (uLo c.toNat) (uHi c.toNat) l := by rw [utfD]
theorem utfD_next (n lo hi : Nat) (b : UInt8) (l : List UInt8) : utfD (n + 1) lo hi (b :: l) = if lo ≤ b.toNat ∧ b.toNat ≤ hi then utfD n 128 191 l else false := by rw [utfD]
theorem utfD_zero (lo hi : Nat) (l : List UInt8) : utfD 0 lo hi l = utfD 0 0 0 l := by
  cases l with
  | nil => rw [utfD_nil, utfD_nil]
  | cons c l => rw [utfD_head, utfD_head]
theorem utfD_short : ∀ (l : List UInt8) (n lo hi : Nat), l.length < n → utfD n lo hi l = false
  | [], n + 1, lo, hi, _ => by rw [utfD]
  | b :: l, n + 1, lo, hi, h => by
    rw [utfD_next]
    have := utfD_short l n 128 191 (by simpa using h)
    rw [this]
    simp
theorem utfD_at (X : ByteArray) (k lo hi i : Nat) (h : i < X.size) : utfD (k + 1) lo hi (X.data.toList.drop i) = if lo ≤ X[i].toNat ∧ X[i].toNat ≤ hi then utfD k 128 191 (X.data.toList.drop (i + 1)) else false := by
  rw [List.drop_eq_getElem_cons (by simpa using h), utfD_next]
  rfl
theorem utfD_at0 (X : ByteArray) (lo hi i : Nat) (h : i < X.size) : utfD 0 lo hi (X.data.toList.drop i) = if uN X[i].toNat = 0 then false else utfD (uN X[i].toNat - 1) (uLo X[i].toNat) (uHi X[i].toNat) (X.data.toList.drop (i + 1)) := by
  rw [List.drop_eq_getElem_cons (by simpa using h), utfD_head]
  rfl
theorem utfD_at_short (X : ByteArray) (n lo hi i : Nat) (h : X.size < i + n) (hi' : i ≤ X.size) : utfD n lo hi (X.data.toList.drop i) = false := by
  refine utfD_short _ n lo hi ?_
  rw [List.length_drop]
  have : X.data.toList.length = X.size := by simp
  omega
theorem utfD_at_end (X : ByteArray) (lo hi : Nat) : utfD 0 lo hi (X.data.toList.drop X.size) = true := by
  rw [List.drop_of_length_le (by simp), utfD_nil]
theorem uN_le (c : Nat) : uN c ≤ 4 := by
  unfold uN
  (repeat' split) <;> omega
theorem uLo_le (c : Nat) : uLo c ≤ 160 ∧ uHi c ≤ 191 ∧ 128 ≤ uLo c := by
  unfold uLo uHi
  refine ⟨?_, ?_, ?_⟩ <;> (repeat' split) <;> omega
theorem ext_drop (X : ByteArray) (n : Nat) : (X.extract n X.size).data.toList = X.data.toList.drop n := by
  rw [ByteArray.data_extract, Array.toList_extract, List.extract_eq_take_drop]
  exact List.take_of_length_le (by simp)
/-- may a byte be in a part? -/
def okB (b : UInt8) : Bool := !(decide (b.toNat < 32) || decide (b.toNat = 127) || decide (b.toNat = 47) || decide (b.toNat = 92) || decide (b.toNat = 58))
/-- is it a part? -/
def partL (l : List UInt8) : Bool := l.all okB && decide (1 ≤ l.length ∧ l.length ≤ 60) && decide (l ≠ [46]) && decide (l ≠ [46, 46]) && utfD 0 0 0 l
theorem partL_bad {l : List UInt8} {i : Nat} (h : i < l.length) (hb : okB l[i] = false) : partL l = false := by
  have : l.all okB = false := by
    rw [List.all_eq_false]
    exact ⟨l[i], List.getElem_mem h, by simp [hb]⟩
  unfold partL
  rw [this]
  simp
/-- what stands between slashes -/
def spL : List UInt8 → List (List UInt8)
  | [] => [[]]
  | b :: l => if b = 47 then [] :: spL l else (b :: (spL l).headD []) :: (spL l).tail
theorem spL_ne (l : List UInt8) : spL l ≠ [] := by
  cases l with
  | nil => simp [spL]
  | cons b l => rw [spL]; split <;> simp
theorem spL_head (l : List UInt8) : (spL l).headD [] :: (spL l).tail = spL l := by
  cases h : spL l with
  | nil => exact absurd h (spL_ne l)
  | cons a t => rfl
theorem spL_slash (l : List UInt8) : spL (47 :: l) = [] :: spL l := by rw [spL, if_pos rfl]
theorem spL_app : ∀ (a r : List UInt8), (47 : UInt8) ∉ a → spL (a ++ 47 :: r) = a :: spL r
  | [], r, _ => spL_slash r
  | b :: a, r, h => by
    rw [List.mem_cons, not_or] at h
    rw [List.cons_append, spL, if_neg (fun e => h.1 e.symm), spL_app a r h.2]
    rfl
theorem spL_none : ∀ (a : List UInt8), (47 : UInt8) ∉ a → spL a = [a]
  | [], _ => rfl
  | b :: a, h => by
    rw [List.mem_cons, not_or] at h
    rw [spL, if_neg (fun e => h.1 e.symm), spL_none a h.2]
    rfl
theorem spL_no : ∀ (l : List UInt8), ∀ x ∈ spL l, (47 : UInt8) ∉ x
  | [], x, h => by
    rw [spL, List.mem_singleton] at h
    rw [h]
    simp
  | b :: l, x, h => by
    rw [spL] at h
    split at h
    · rw [List.mem_cons] at h
      rcases h with rfl | h
      · simp
      · exact spL_no l x h
    · rename_i hb
      rw [List.mem_cons] at h
      rcases h with rfl | h
      · rw [List.mem_cons, not_or]
        refine ⟨fun e => hb e.symm, ?_⟩
        have hm : (spL l).headD [] ∈ spL l := by
          cases he : spL l with
          | nil => exact absurd he (spL_ne l)
          | cons a t => exact List.mem_cons_self
        exact spL_no l _ hm
      · have hm : x ∈ spL l := by
          rw [← spL_head l]
          exact List.mem_cons_of_mem _ h
        exact spL_no l x hm
/-- parts with a slash between -/
def jnL : List (List UInt8) → List UInt8
  | [] => []
  | [x] => x
  | x :: y :: l => x ++ 47 :: jnL (y :: l)
theorem jnL_cons (x : List UInt8) (l : List (List UInt8)) (h : l ≠ []) : jnL (x :: l) = x ++ 47 :: jnL l := by
  cases l with
  | nil => exact absurd rfl h
  | cons y l => rw [jnL]
theorem jnL_snoc (x : List UInt8) : ∀ (l : List (List UInt8)), l ≠ [] → jnL (l ++ [x]) = jnL l ++ 47 :: x
  | [], h => absurd rfl h
  | [a], _ => rfl
  | a :: b :: l, _ => by
    rw [List.cons_append, jnL_cons a _ (by simp), jnL_snoc x (b :: l) (by simp), jnL_cons a (b :: l) (by simp)]
    simp
theorem jnL_spL : ∀ l : List UInt8, jnL (spL l) = l
  | [] => rfl
  | b :: l => by
    have ih := jnL_spL l
    rw [spL]
    split
    · rename_i hb
      rw [jnL_cons _ _ (spL_ne l), ih, hb]
      rfl
    · rw [← spL_head l] at ih
      generalize (spL l).headD [] = x at *
      generalize (spL l).tail = t at *
      cases t with
      | nil =>
        rw [jnL] at ih ⊢
        rw [ih]
      | cons y t =>
        rw [jnL] at ih ⊢
        rw [← ih]
        rfl
theorem spL_jnL : ∀ (l : List (List UInt8)), l ≠ [] → (∀ x ∈ l, (47 : UInt8) ∉ x) → spL (jnL l) = l
  | [], h, _ => absurd rfl h
  | [x], _, h => by rw [jnL]; exact spL_none x (h x (by simp))
  | x :: y :: l, _, h => by
    rw [jnL_cons x _ (by simp), spL_app x _ (h x (by simp)), spL_jnL (y :: l) (by simp) (fun z hz => h z (List.mem_cons_of_mem _ hz))]
/-- the name that none may have -/
def resL : List UInt8 := [46, 115, 119, 105, 110, 103, 108, 101]
/-- is it a path? -/
def rightL (p : List UInt8) : Bool := decide (p.length ≤ 200) && decide ((spL p).length ≤ 12) && decide ((spL p).headD [] ≠ resL) && (spL p).all partL
/-- a path's parts, its ups -/
def partsL (p : List UInt8) : List (List UInt8) := if rightL p = true then spL p else []
def upsL (p : List UInt8) : List (List UInt8) := (List.range ((partsL p).length - 1)).map fun n => jnL ((partsL p).take (n + 1))
end Sw
