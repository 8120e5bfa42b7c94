/- Several texts, joined for the limit of sixty files; each one opens with its own comment. -/
import Derived.Test.YtlogdionhgabdaaDoorJoin33
import Derived.Test.YtlogdionhgabdaaDoorJoin36
import Derived.Test.YtlogdionhgabdaaDoorJoin2
/- StatTallies, plainly. -/
set_option linter.unusedVariables false
set_option linter.unusedSimpArgs false
namespace Sw
open Go
theorem getN_mem (k : Int) (v : Int) : ∀ (l : List (Int × Int)), getN ordI k l = some v → ∃ k', (k', v) ∈ l
  | [], h => by cases h
  | e :: l, h => by
    unfold getN at h
    split at h
    · obtain ⟨k', hk⟩ := getN_mem k v l h
      exact ⟨k', List.mem_cons_of_mem _ hk⟩
    · split at h
      · cases h
        exact ⟨e.1, List.mem_cons_self ..⟩
      · cases h
theorem getN_up (k v : Int) : ∀ (l : List (Int × Int)), Up ordI l → (k, v) ∈ l → getN ordI k l = some v
  | [], _, h => by cases h
  | e :: l, hu, h => by
    unfold getN
    rcases List.mem_cons.1 h with h1 | h1
    · subst h1
      have : ordI k k = 0 := ordI_ord.self k
      rw [if_neg (by simp [this]), if_pos (by simpa using this)]
    · have := hu.head _ h1
      rw [if_pos this]
      exact getN_up k v l hu.tail h1
end Sw
namespace Go.Proofs.YtlogdionhgabdaaDoor
open Go Go.RowKit
open Sw
/-- what the first so many things make -/
def foldT (l : List En) : List En := l.foldl (fun X e => addN e.1 e.2 X) []
theorem foldT_step (l : List En) (i : Nat) (h : i < l.length) : foldT (l.take (i + 1)) = addN l[i].1 l[i].2 (foldT (l.take i)) := by
  unfold foldT
  rw [List.take_succ_eq_append_getElem h, List.foldl_append]
  rfl
theorem addN_len (k n : Int) (X : List En) : (addN k n X).length ≤ X.length + 1 := by
  unfold addN
  split
  · omega
  · rw [put_len]; split <;> omega
theorem addN_get {k : Int} {X : List En} {V : Int} (hV : 0 ≤ V) (h : ∀ e ∈ X, 0 ≤ e.2 ∧ e.2 ≤ V) : 0 ≤ (getN ordI k X).getD 0 ∧ (getN ordI k X).getD 0 ≤ V := by
  cases hg : getN ordI k X with
  | none => exact ⟨by simp, by simpa using hV⟩
  | some v =>
    obtain ⟨k', hk⟩ := getN_mem k v X hg
    exact h _ hk
theorem addN_vals {k n : Int} {X : List En} {V : Int} (hV : 0 ≤ V) (h : ∀ e ∈ X, 0 ≤ e.2 ∧ e.2 ≤ V) : ∀ e ∈ addN k n X, 0 ≤ e.2 ∧ e.2 ≤ V + 1000000000 := fun e he => by
  unfold addN at he
  split at he
  · have := h e he; omega
  · have hg := addN_get (k := k) hV h
    rcases put_mem _ _ _ _ he with h1 | h1
    · subst h1; dsimp only; omega
    · have := h e h1; omega
theorem sumN_le (V : Int) : ∀ (X : List En), (∀ e ∈ X, e.2 ≤ V) → sumN X ≤ X.length * V
  | [], _ => by unfold sumN; simp
  | e :: X, h => by
    have h1 := sumN_le V X (fun e he => h e (List.mem_cons_of_mem _ he))
    have h2 := h e (List.mem_cons_self ..)
    have : sumN (e :: X) = e.2 + sumN X := by unfold sumN; simp
    rw [this, List.length_cons, show ((X.length + 1 : Nat) : Int) = (X.length : Int) + 1 from by omega, Int.add_mul]
    omega
theorem sumN_take (X : List En) (i : Nat) (h : i < X.length) : sumN (X.take (i + 1)) = sumN (X.take i) + X[i].2 := by
  rw [List.take_succ_eq_append_getElem h, sumN_app, sumN_one]
theorem own39_below {w w' : World} {base : Nat} {u : Value} {l : List En} (h : Own39 w base u l) (hb : Below w.heap.size w w') : Own39 w' base u l := own_kept h hb
theorem own39_slv {w : World} {base : Nat} {u : Value} {l : List En} (h : Own39 w base u l) : SlV w 2 eCII u l := SlV.of_own h eCII_len (by decide)
end Go.Proofs.YtlogdionhgabdaaDoor
/- Plain laws of names: letters, parts, what stands between slashes. No program. -/
set_option linter.unusedVariables false
set_option linter.unusedSimpArgs false
namespace Sw
open Go
def mkB (l : List UInt8) : ByteArray := ⟨l.toArray⟩
theorem mkB_data (b : ByteArray) : mkB b.data.toList = b := by
  apply ByteArray.ext
  simp [mkB]
theorem data_mkB (l : List UInt8) : (mkB l).data.toList = l := by simp [mkB]
theorem mkB_size (l : List UInt8) : (mkB l).size = l.length := by
  show l.toArray.size = l.length
  simp
/-- how many bytes a letter has that begins so; between which its second one is -/
def uN (c : Nat) : Nat := if c < 128 then 1 else if 194 ≤ c ∧ c ≤ 223 then 2 else if 224 ≤ c ∧ c ≤ 239 then 3 else if 240 ≤ c ∧ c ≤ 244 then 4 else 0
def uLo (c : Nat) : Nat := if c = 224 then 160 else if c = 240 then 144 else 128
def uHi (c : Nat) : Nat := if c = 237 then 159 else if c = 244 then 143 else 191
/-- are the bytes letters, where so many are still wanted, the next between lo and hi? -/
def utfD : Nat → Nat → Nat → List UInt8 → Bool
  | 0, _, _, [] => true
  | _ + 1, _, _, [] => false
  | 0, _, _, c :: l => if uN c.toNat = 0 then false else utfD (uN c.toNat - 1) (uLo c.toNat) (uHi c.toNat) l
  | n + 1, lo, hi, b :: l => if lo ≤ b.toNat ∧ b.toNat ≤ hi then utfD n 128 191 l else false
theorem utfD_nil (lo hi : Nat) : utfD 0 lo hi [] = true := by rw [utfD]
theorem utfD_head (lo hi : Nat) (c : UInt8) (l : List UInt8) : utfD 0 lo hi (c :: l) = if uN c.toNat = 0 then false else utfD (uN c.toNat - 1) (uLo c.toNat) (uHi c.toNat) l := by rw [utfD]
theorem utfD_next (n lo hi : Nat) (b : UInt8) (l : List UInt8) : utfD (n + 1) lo hi (b :: l) = if lo ≤ b.toNat ∧ b.toNat ≤ hi then utfD n 128 191 l else false := by rw [utfD]
theorem utfD_zero (lo hi : Nat) (l : List UInt8) : utfD 0 lo hi l = utfD 0 0 0 l := by
  cases l with
  | nil => rw [utfD_nil, utfD_nil]
  | cons c l => rw [utfD_head, utfD_head]
theorem utfD_short : ∀ (l : List UInt8) (n lo hi : Nat), l.length < n → utfD n lo hi l = false
  | [], n + 1, lo, hi, _ => by rw [utfD]
  | b :: l, n + 1, lo, hi, h => by
    rw [utfD_next]
    have := utfD_short l n 128 191 (by simpa using h)
    rw [this]
    simp
theorem utfD_at (X : ByteArray) (k lo hi i : Nat) (h : i < X.size) : utfD (k + 1) lo hi (X.data.toList.drop i) = if lo ≤ X[i].toNat ∧ X[i].toNat ≤ hi then utfD k 128 191 (X.data.toList.drop (i + 1)) else false := by
  rw [List.drop_eq_getElem_cons (by simpa using h), utfD_next]
  rfl
theorem utfD_at0 (X : ByteArray) (lo hi i : Nat) (h : i < X.size) : utfD 0 lo hi (X.data.toList.drop i) = if uN X[i].toNat = 0 then false else utfD (uN X[i].toNat - 1) (uLo X[i].toNat) (uHi X[i].toNat) (X.data.toList.drop (i + 1)) := by
  rw [List.drop_eq_getElem_cons (by simpa using h), utfD_head]
  rfl
theorem utfD_at_short (X : ByteArray) (n lo hi i : Nat) (h : X.size < i + n) (hi' : i ≤ X.size) : utfD n lo hi (X.data.toList.drop i) = false := by
  refine utfD_short _ n lo hi ?_
  rw [List.length_drop]
  have : X.data.toList.length = X.size := by simp
  omega
theorem utfD_at_end (X : ByteArray) (lo hi : Nat) : utfD 0 lo hi (X.data.toList.drop X.size) = true := by
  rw [List.drop_of_length_le (by simp), utfD_nil]
theorem uN_le (c : Nat) : uN c ≤ 4 := by
  unfold uN
  (repeat' split) <;> omega
theorem uLo_le (c : Nat) : uLo c ≤ 160 ∧ uHi c ≤ 191 ∧ 128 ≤ uLo c := by
  unfold uLo uHi
  refine ⟨?_, ?_, ?_⟩ <;> (repeat' split) <;> omega
theorem ext_drop (X : ByteArray) (n : Nat) : (X.extract n X.size).data.toList = X.data.toList.drop n := by
  rw [ByteArray.data_extract, Array.toList_extract, List.extract_eq_take_drop]
  exact List.take_of_length_le (by simp)
/-- may a byte be in a part? -/
def okB (b : UInt8) : Bool := !(decide (b.toNat < 32) || decide (b.toNat = 127) || decide (b.toNat = 47) || decide (b.toNat = 92) || decide (b.toNat = 58))
/-- is it a part? -/
def partL (l : List UInt8) : Bool := l.all okB && decide (1 ≤ l.length ∧ l.length ≤ 60) && decide (l ≠ [46]) && decide (l ≠ [46, 46]) && utfD 0 0 0 l
theorem partL_bad {l : List UInt8} {i : Nat} (h : i < l.length) (hb : okB l[i] = false) : partL l = false := by
  have : l.all okB = false := by
    rw [List.all_eq_false]
    exact ⟨l[i], List.getElem_mem h, by simp [hb]⟩
  unfold partL
  rw [this]
  simp
/-- what stands between slashes -/
def spL : List UInt8 → List (List UInt8)
  | [] => [[]]
  | b :: l => if b = 47 then [] :: spL l else (b :: (spL l).headD []) :: (spL l).tail
theorem spL_ne (l : List UInt8) : spL l ≠ [] := by
  cases l with
  | nil => simp [spL]
  | cons b l => rw [spL]; split <;> simp
theorem spL_head (l : List UInt8) : (spL l).headD [] :: (spL l).tail = spL l := by
  cases h : spL l with
  | nil => exact absurd h (spL_ne l)
  | cons a t => rfl
theorem spL_slash (l : List UInt8) : spL (47 :: l) = [] :: spL l := by rw [spL, if_pos rfl]
theorem spL_app : ∀ (a r : List UInt8), (47 : UInt8) ∉ a → spL (a ++ 47 :: r) = a :: spL r
  | [], r, _ => spL_slash r
  | b :: a, r, h => by
    rw [List.mem_cons, not_or] at h
    rw [List.cons_append, spL, if_neg (fun e => h.1 e.symm), spL_app a r h.2]
    rfl
theorem spL_none : ∀ (a : List UInt8), (47 : UInt8) ∉ a → spL a = [a]
  | [], _ => rfl
  | b :: a, h => by
    rw [List.mem_cons, not_or] at h
    rw [spL, if_neg (fun e => h.1 e.symm), spL_none a h.2]
    rfl
theorem spL_no : ∀ (l : List UInt8), ∀ x ∈ spL l, (47 : UInt8) ∉ x
  | [], x, h => by
    rw [spL, List.mem_singleton] at h
    rw [h]
    simp
  | b :: l, x, h => by
    rw [spL] at h
    split at h
    · rw [List.mem_cons] at h
      rcases h with rfl | h
      · simp
      · exact spL_no l x h
    · rename_i hb
      rw [List.mem_cons] at h
      rcases h with rfl | h
      · rw [List.mem_cons, not_or]
        refine ⟨fun e => hb e.symm, ?_⟩
        have hm : (spL l).headD [] ∈ spL l := by
          cases he : spL l with
          | nil => exact absurd he (spL_ne l)
          | cons a t => exact List.mem_cons_self
        exact spL_no l _ hm
      · have hm : x ∈ spL l := by
          rw [← spL_head l]
          exact List.mem_cons_of_mem _ h
        exact spL_no l x hm
/-- parts with a slash between -/
def jnL : List (List UInt8) → List UInt8
  | [] => []
  | [x] => x
  | x :: y :: l => x ++ 47 :: jnL (y :: l)
theorem jnL_cons (x : List UInt8) (l : List (List UInt8)) (h : l ≠ []) : jnL (x :: l) = x ++ 47 :: jnL l := by
  cases l with
  | nil => exact absurd rfl h
  | cons y l => rw [jnL]
theorem jnL_snoc (x : List UInt8) : ∀ (l : List (List UInt8)), l ≠ [] → jnL (l ++ [x]) = jnL l ++ 47 :: x
  | [], h => absurd rfl h
  | [a], _ => rfl
  | a :: b :: l, _ => by
    rw [List.cons_append, jnL_cons a _ (by simp), jnL_snoc x (b :: l) (by simp), jnL_cons a (b :: l) (by simp)]
    simp
theorem jnL_spL : ∀ l : List UInt8, jnL (spL l) = l
  | [] => rfl
  | b :: l => by
    have ih := jnL_spL l
    rw [spL]
    split
    · rename_i hb
      rw [jnL_cons _ _ (spL_ne l), ih, hb]
      rfl
    · rw [← spL_head l] at ih
      generalize (spL l).headD [] = x at *
      generalize (spL l).tail = t at *
      cases t with
      | nil =>
        rw [jnL] at ih ⊢
        rw [ih]
      | cons y t =>
        rw [jnL] at ih ⊢
        rw [← ih]
        rfl
theorem spL_jnL : ∀ (l : List (List UInt8)), l ≠ [] → (∀ x ∈ l, (47 : UInt8) ∉ x) → spL (jnL l) = l
  | [], h, _ => absurd rfl h
  | [x], _, h => by rw [jnL]; exact spL_none x (h x (by simp))
  | x :: y :: l, _, h => by
    rw [jnL_cons x _ (by simp), spL_app x _ (h x (by simp)), spL_jnL (y :: l) (by simp) (fun z hz => h z (List.mem_cons_of_mem _ hz))]
/-- the name that none may have -/
def resL : List UInt8 := [46, 115, 119, 105, 110, 103, 108, 101]
/-- is it a path? -/
def rightL (p : List UInt8) : Bool := decide (p.length ≤ 200) && decide ((spL p).length ≤ 12) && decide ((spL p).headD [] ≠ resL) && (spL p).all partL
/-- a path's parts, its ups -/
def partsL (p : List UInt8) : List (List UInt8) := if rightL p = true then spL p else []
def upsL (p : List UInt8) : List (List UInt8) := (List.range ((partsL p).length - 1)).map fun n => jnL ((partsL p).take (n + 1))
end Sw
