/- Plain laws of the lines of a status: what a row's line is, and that it is read back. -/
import Derived.Test.YtpnkgldpmalklaaDoorNamePlain
import Derived.Lib.IndexMore
import Derived.Lib.CutLaws
set_option linter.unusedVariables false
set_option linter.unusedSimpArgs false
namespace Sw
open Go Go.RowKit
/-- a class's word -/
def clsS (n : Int) : ByteArray := if n = 1 then ⟨#[98, 111, 116, 104]⟩ else if n = 2 then ⟨#[103, 111, 110, 101]⟩ else if n = 3 then ⟨#[107, 105, 110, 100, 115]⟩ else if n = 4 then ⟨#[115, 104, 97, 112, 101]⟩ else ⟨#[]⟩
/-- a verdict's sign, and a space -/
def sgnS (v : Int) : ByteArray := if v = 0 then ⟨#[61, 32]⟩ else if v = 1 then ⟨#[60, 32]⟩ else ⟨#[62, 32]⟩
/-- a clash's line -/
def clashS (p : ByteArray) (n : Int) : ByteArray := if (1 ≤ n ∧ n ≤ 4) ∧ rightL p.data.toList = true then (⟨#[33, 32]⟩ ++ clsS n) ++ ⟨#[32]⟩ ++ p else ⟨#[]⟩
/-- may a row be? -/
def mayR (p : ByteArray) (v n : Int) : Bool := rightL p.data.toList && (if v = 3 then decide (1 ≤ n ∧ n ≤ 3) else decide (0 ≤ v ∧ v < 3 ∧ n = 0))
/-- a row's line -/
def lineS (p : ByteArray) (v n : Int) : ByteArray := if mayR p v n = true then (if v = 3 then (⟨#[33, 32]⟩ ++ clsS n) ++ ⟨#[32]⟩ ++ p else sgnS v ++ p) else ⟨#[]⟩
/-- a text up to its first space, and what is behind it -/
def cut1 (s : ByteArray) : ByteArray := ⟨(Lib.cut s.data.toList [32]).1.toArray⟩
def cut2 (s : ByteArray) : ByteArray := ⟨(Lib.cut s.data.toList [32]).2.1.toArray⟩
/-- the verdict, class and path of any line -/
def rdV (s : ByteArray) : Int := max 0 (Lib.index [61, 60, 62, 33] (cut1 s).data.toList)
def wordC (x : ByteArray) : Int := if x = clsS 1 then 1 else if x = clsS 2 then 2 else if x = clsS 3 then 3 else 0
def rdC (s : ByteArray) : Int := if rdV s = 3 then wordC (cut1 (cut2 s)) else 0
def rdP (s : ByteArray) : ByteArray := if rdV s = 3 then cut2 (cut2 s) else cut2 s
/-- is a line a row's line? -/
def rdOk (s : ByteArray) : Bool := decide (s ≠ ⟨#[]⟩) && decide (lineS (rdP s) (rdV s) (rdC s) = s)
theorem index_lead : ∀ (a b : List UInt8), (32 : UInt8) ∉ a → Lib.index (a ++ 32 :: b) [32] = a.length
  | [], b, _ => by unfold Lib.index; simp [List.isPrefixOf]
  | x :: a, b, h => by
    have hx : ¬ ((32 : UInt8) == x) = true := by
      intro e
      exact h (by rw [show x = 32 from (eq_of_beq e).symm]; exact List.mem_cons_self ..)
    have ih := index_lead a b (fun hm => h (List.mem_cons_of_mem _ hm))
    rw [List.cons_append]
    unfold Lib.index
    rw [ih]
    have h1 : (List.isPrefixOf [32] (x :: (a ++ 32 :: b))) = false := by
      simp only [List.isPrefixOf, Bool.and_eq_false_imp]
      intro e; exact absurd e hx
    rw [h1]
    have h2 : ((a.length : Int) == -1) = false := by rw [beq_eq_false_iff_ne]; omega
    rw [h2]
    simp
theorem cut_lead (a b : List UInt8) (h : (32 : UInt8) ∉ a) : Lib.cut (a ++ 32 :: b) [32] = (a, b, true) := by
  unfold Lib.cut
  rw [index_lead a b h, if_pos (by omega)]
  have h1 : ((a.length : Int)).toNat = a.length := by omega
  rw [h1, List.take_left]
  have h2 : (a ++ 32 :: b).drop (a.length + [(32 : UInt8)].length) = b := by
    have : a.length + [(32 : UInt8)].length = (a ++ [32]).length := by simp
    rw [this, show a ++ 32 :: b = (a ++ [32]) ++ b by simp, List.drop_left]
  rw [h2]
theorem cut1_lead (a : List UInt8) (p : ByteArray) (h : (32 : UInt8) ∉ a) : cut1 (⟨(a ++ [32]).toArray⟩ ++ p) = ⟨a.toArray⟩ ∧ cut2 (⟨(a ++ [32]).toArray⟩ ++ p) = p := by
  have e : ((⟨(a ++ [32]).toArray⟩ : ByteArray) ++ p).data.toList = a ++ 32 :: p.data.toList := by
    rw [ByteArray.data_append]
    simp
  unfold cut1 cut2
  rw [e, cut_lead _ _ h]
  exact ⟨rfl, by simp⟩
def sgnL (v : Int) : List UInt8 := if v = 0 then [61] else if v = 1 then [60] else [62]
theorem sgn_form (v : Int) : sgnS v = ⟨(sgnL v ++ [32]).toArray⟩ := by
  unfold sgnS sgnL
  split
  · rfl
  · split <;> rfl
theorem sgn_no (v : Int) : (32 : UInt8) ∉ sgnL v := by
  unfold sgnL
  split
  · decide
  · split <;> decide
theorem sgn_size (v : Int) : (sgnS v).size = 2 := by
  unfold sgnS
  split
  · rfl
  · split <;> rfl
theorem ba_assoc (a b c : ByteArray) : (a ++ b) ++ c = a ++ (b ++ c) := by
  apply ByteArray.ext
  simp [ByteArray.data_append, Array.append_assoc]
/-- a row that may be is read from its line -/
theorem rd_line {p : ByteArray} {v n : Int} (h : mayR p v n = true) : rdP (lineS p v n) = p ∧ rdV (lineS p v n) = v ∧ rdC (lineS p v n) = n := by
  have hm := h
  unfold mayR at hm
  rw [Bool.and_eq_true] at hm
  unfold lineS
  rw [if_pos h]
  by_cases h3 : v = 3
  · subst h3
    rw [if_pos rfl, decide_eq_true_eq] at hm
    rw [if_pos rfl]
    have e1 : ((⟨#[33, 32]⟩ ++ clsS n) ++ ⟨#[32]⟩ ++ p : ByteArray) = ⟨(([33] : List UInt8) ++ [32]).toArray⟩ ++ (clsS n ++ (⟨#[32]⟩ ++ p)) := by
      rw [ba_assoc, ba_assoc]; rfl
    have h1 := cut1_lead [33] (clsS n ++ (⟨#[32]⟩ ++ p)) (by decide)
    rw [← e1] at h1
    have hv : rdV ((⟨#[33, 32]⟩ ++ clsS n) ++ ⟨#[32]⟩ ++ p) = 3 := by
      unfold rdV
      rw [h1.1]
      rfl
    have h2 : cut1 (clsS n ++ (⟨#[32]⟩ ++ p)) = clsS n ∧ cut2 (clsS n ++ (⟨#[32]⟩ ++ p)) = p := by
      obtain rfl | rfl | rfl : n = 1 ∨ n = 2 ∨ n = 3 := by omega
      all_goals
        rw [← ba_assoc]
      · exact cut1_lead [98, 111, 116, 104] p (by decide)
      · exact cut1_lead [103, 111, 110, 101] p (by decide)
      · exact cut1_lead [107, 105, 110, 100, 115] p (by decide)
    unfold rdP rdC
    rw [hv, if_pos rfl, if_pos rfl, h1.2, h2.1, h2.2]
    refine ⟨rfl, rfl, ?_⟩
    obtain rfl | rfl | rfl : n = 1 ∨ n = 2 ∨ n = 3 := by omega
    all_goals decide
  · rw [if_neg h3, decide_eq_true_eq] at hm
    rw [if_neg h3, sgn_form]
    obtain ⟨_, h0, h3', rfl⟩ := hm
    have h1 := cut1_lead (sgnL v) p (sgn_no v)
    have hv : rdV (⟨(sgnL v ++ [32]).toArray⟩ ++ p) = v := by
      unfold rdV
      rw [h1.1]
      obtain rfl | rfl | rfl : v = 0 ∨ v = 1 ∨ v = 2 := by omega
      all_goals rfl
    unfold rdP rdC
    rw [hv, if_neg h3, if_neg h3, h1.2]
    exact ⟨rfl, rfl, rfl⟩
theorem lineS_nil {p : ByteArray} {v n : Int} : lineS p v n = ⟨#[]⟩ ↔ mayR p v n = false := by
  constructor
  · intro h
    cases hm : mayR p v n with
    | false => rfl
    | true =>
      exfalso
      unfold lineS at h
      rw [if_pos hm] at h
      have hz := congrArg ByteArray.size h
      split at hz
      · simp only [ByteArray.size_append] at hz
        have : (⟨#[33, 32]⟩ : ByteArray).size = 2 := rfl
        have : (⟨#[]⟩ : ByteArray).size = 0 := rfl
        omega
      · rw [ByteArray.size_append, sgn_size] at hz
        have : (⟨#[]⟩ : ByteArray).size = 0 := rfl
        omega
  · intro h
    unfold lineS
    rw [if_neg (by rw [h]; simp)]
/-- a row's line is a line; what is read from it is the row -/
theorem rdOk_line (p : ByteArray) (v n : Int) : rdOk (lineS p v n) = mayR p v n := by
  cases hm : mayR p v n with
  | false =>
    rw [lineS_nil.2 hm]
    rfl
  | true =>
    unfold rdOk
    obtain ⟨h1, h2, h3⟩ := rd_line hm
    rw [h1, h2, h3, decide_eq_true rfl, Bool.and_true, decide_eq_true_eq]
    intro e
    rw [lineS_nil] at e
    rw [e] at hm
    cases hm
end Sw
