/- Several texts, joined for the limit of sixty files; each one opens with its own comment. -/
import Derived.Test.YtlfeeiloijmagaaGreatDoorJoin1
import Derived.Lib.IndexMore
import Derived.Lib.CutLaws
import Derived.Test.YtlfeeiloijmagaaGreatDoorJoin6
import Derived.Test.YtlfeeiloijmagaaGreatDoorJoin29
/- Plain laws of the lines of a status: what a row's line is, and that it is read back. -/
set_option linter.unusedVariables false
set_option linter.unusedSimpArgs false
namespace Sw
open Go Go.RowKit
/-- a class's word -/
def clsS (n : Int) : ByteArray := if n = 1 then ⟨#[98, 111, 116, 104]⟩ else if n = 2 then ⟨#[103, 111, 110, 101]⟩ else if n = 3 then ⟨#[107, 105, 110, 100, 115]⟩ else if n = 4 then ⟨#[115, 104, 97, 112, 101]⟩ else ⟨#[]⟩
/-- a verdict's sign, and a space -/
def sgnS (v : Int) : ByteArray := if v = 0 then ⟨#[61, 32]⟩ else if v = 1 then ⟨#[60, 32]⟩ else ⟨#[62, 32]⟩
/-- a clash's line -/
def clashS (p : ByteArray) (n : Int) : ByteArray := if (1 ≤ n ∧ n ≤ 4) ∧ rightL p.data.toList = true then (⟨#[33, 32]⟩ ++ clsS n) ++ ⟨#[32]⟩ ++ p else ⟨#[]⟩
/-- may a row be? -/
def mayR (p : ByteArray) (v n : Int) : Bool := rightL p.data.toList && (if v = 3 then decide (1 ≤ n ∧ n ≤ 3) else decide (0 ≤ v ∧ v < 3 ∧ n = 0))
/-- a row's line -/
def lineS (p : ByteArray) (v n : Int) : ByteArray := if mayR p v n = true then (if v = 3 then (⟨#[33, 32]⟩ ++ clsS n) ++ ⟨#[32]⟩ ++ p else sgnS v ++ p) else ⟨#[]⟩
/-- a text up to its first space, and what is behind it -/
def cut1 (s : ByteArray) : ByteArray := ⟨(Lib.cut s.data.toList [32]).1.toArray⟩
def cut2 (s : ByteArray) : ByteArray := ⟨(Lib.cut s.data.toList [32]).2.1.toArray⟩
/-- the verdict, class and path of any line -/
def rdV (s : ByteArray) : Int := max 0 (Lib.index [61, 60, 62, 33] (cut1 s).data.toList)
def wordC (x : ByteArray) : Int := if x = clsS 1 then 1 else if x = clsS 2 then 2 else if x = clsS 3 then 3 else 0
def rdC (s : ByteArray) : Int := if rdV s = 3 then wordC (cut1 (cut2 s)) else 0
def rdP (s : ByteArray) : ByteArray := if rdV s = 3 then cut2 (cut2 s) else cut2 s
/-- is a line a row's line? -/
def rdOk (s : ByteArray) : Bool := decide (s ≠ ⟨#[]⟩) && decide (lineS (rdP s) (rdV s) (rdC s) = s)
theorem index_lead : ∀ (a b : List UInt8), (32 : UInt8) ∉ a → Lib.index (a ++ 32 :: b) [32] = a.length
  | [], b, _ => by unfold Lib.index; simp [List.isPrefixOf]
  | x :: a, b, h => by
    have hx : ¬ ((32 : UInt8) == x) = true := by
      intro e
      exact h (by rw [show x = 32 from (eq_of_beq e).symm]; exact List.mem_cons_self ..)
    have ih := index_lead a b (fun hm => h (List.mem_cons_of_mem _ hm))
    rw [List.cons_append]
    unfold Lib.index
    rw [ih]
    have h1 : (List.isPrefixOf [32] (x :: (a ++ 32 :: b))) = false := by
      simp only [List.isPrefixOf, Bool.and_eq_false_imp]
      intro e; exact absurd e hx
    rw [h1]
    have h2 : ((a.length : Int) == -1) = false := by rw [beq_eq_false_iff_ne]; omega
    rw [h2]
    simp
theorem cut_lead (a b : List UInt8) (h : (32 : UInt8) ∉ a) : Lib.cut (a ++ 32 :: b) [32] = (a, b, true) := by
  unfold Lib.cut
  rw [index_lead a b h, if_pos (by omega)]
  have h1 : ((a.length : Int)).toNat = a.length := by omega
  rw [h1, List.take_left]
  have h2 : (a ++ 32 :: b).drop (a.length + [(32 : UInt8)].length) = b := by
    have : a.length + [(32 : UInt8)].length = (a ++ [32]).length := by simp
    rw [this, show a ++ 32 :: b = (a ++ [32]) ++ b by simp, List.drop_left]
  rw [h2]
theorem cut1_lead (a : List UInt8) (p : ByteArray) (h : (32 : UInt8) ∉ a) : cut1 (⟨(a ++ [32]).toArray⟩ ++ p) = ⟨a.toArray⟩ ∧ cut2 (⟨(a ++ [32]).toArray⟩ ++ p) = p := by
  have e : ((⟨(a ++ [32]).toArray⟩ : ByteArray) ++ p).data.toList = a ++ 32 :: p.data.toList := by
    rw [ByteArray.data_append]
    simp
  unfold cut1 cut2
  rw [e, cut_lead _ _ h]
  exact ⟨rfl, by simp⟩
def sgnL (v : Int) : List UInt8 := if v = 0 then [61] else if v = 1 then [60] else [62]
theorem sgn_form (v : Int) : sgnS v = ⟨(sgnL v ++ [32]).toArray⟩ := by
  unfold sgnS sgnL
  split
  · rfl
  · split <;> rfl
theorem sgn_no (v : Int) : (32 : UInt8) ∉ sgnL v := by
  unfold sgnL
  split
  · decide
  · split <;> decide
theorem sgn_size (v : Int) : (sgnS v).size = 2 := by
  unfold sgnS
  split
  · rfl
  · split <;> rfl
theorem ba_assoc (a b c : ByteArray) : (a ++ b) ++ c = a ++ (b ++ c) := by
  apply ByteArray.ext
  simp [ByteArray.data_append, Array.append_assoc]
/-- a row that may be is read from its line -/
theorem rd_line {p : ByteArray} {v n : Int} (h : mayR p v n = true) : rdP (lineS p v n) = p ∧ rdV (lineS p v n) = v ∧ rdC (lineS p v n) = n := by
  have hm := h
  unfold mayR at hm
  rw [Bool.and_eq_true] at hm
  unfold lineS
  rw [if_pos h]
  by_cases h3 : v = 3
  · subst h3
    rw [if_pos rfl, decide_eq_true_eq] at hm
    rw [if_pos rfl]
    have e1 : ((⟨#[33, 32]⟩ ++ clsS n) ++ ⟨#[32]⟩ ++ p : ByteArray) = ⟨(([33] : List UInt8) ++ [32]).toArray⟩ ++ (clsS n ++ (⟨#[32]⟩ ++ p)) := by
      rw [ba_assoc, ba_assoc]; rfl
    have h1 := cut1_lead [33] (clsS n ++ (⟨#[32]⟩ ++ p)) (by decide)
    rw [← e1] at h1
    have hv : rdV ((⟨#[33, 32]⟩ ++ clsS n) ++ ⟨#[32]⟩ ++ p) = 3 := by
      unfold rdV
      rw [h1.1]
      rfl
    have h2 : cut1 (clsS n ++ (⟨#[32]⟩ ++ p)) = clsS n ∧ cut2 (clsS n ++ (⟨#[32]⟩ ++ p)) = p := by
      obtain rfl | rfl | rfl : n = 1 ∨ n = 2 ∨ n = 3 := by omega
      all_goals
        rw [← ba_assoc]
      · exact cut1_lead [98, 111, 116, 104] p (by decide)
      · exact cut1_lead [103, 111, 110, 101] p (by decide)
      · exact cut1_lead [107, 105, 110, 100, 115] p (by decide)
    unfold rdP rdC
    rw [hv, if_pos rfl, if_pos rfl, h1.2, h2.1, h2.2]
    refine ⟨rfl, rfl, ?_⟩
    obtain rfl | rfl | rfl : n = 1 ∨ n = 2 ∨ n = 3 := by omega
    all_goals decide
  · rw [if_neg h3, decide_eq_true_eq] at hm
    rw [if_neg h3, sgn_form]
    obtain ⟨_, h0, h3', rfl⟩ := hm
    have h1 := cut1_lead (sgnL v) p (sgn_no v)
    have hv : rdV (⟨(sgnL v ++ [32]).toArray⟩ ++ p) = v := by
      unfold rdV
      rw [h1.1]
      obtain rfl | rfl | rfl : v = 0 ∨ v = 1 ∨ v = 2 := by omega
      all_goals rfl
    unfold rdP rdC
    rw [hv, if_neg h3, if_neg h3, h1.2]
    exact ⟨rfl, rfl, rfl⟩
theorem lineS_nil {p : ByteArray} {v n : Int} : lineS p v n = ⟨#[]⟩ ↔ mayR p v n = false := by
  constructor
  · intro h
    cases hm : mayR p v n with
    | false => rfl
    | true =>
      exfalso
      unfold lineS at h
      rw [if_pos hm] at h
      have hz := congrArg ByteArray.size h
      split at hz
      · simp only [ByteArray.size_append] at hz
        have : (⟨#[33, 32]⟩ : ByteArray).size = 2 := rfl
        have : (⟨#[]⟩ : ByteArray).size = 0 := rfl
        omega
      · rw [ByteArray.size_append, sgn_size] at hz
        have : (⟨#[]⟩ : ByteArray).size = 0 := rfl
        omega
  · intro h
    unfold lineS
    rw [if_neg (by rw [h]; simp)]
/-- a row's line is a line; what is read from it is the row -/
theorem rdOk_line (p : ByteArray) (v n : Int) : rdOk (lineS p v n) = mayR p v n := by
  cases hm : mayR p v n with
  | false =>
    rw [lineS_nil.2 hm]
    rfl
  | true =>
    unfold rdOk
    obtain ⟨h1, h2, h3⟩ := rd_line hm
    rw [h1, h2, h3, decide_eq_true rfl, Bool.and_true, decide_eq_true_eq]
    intro e
    rw [lineS_nil] at e
    rw [e] at hm
    cases hm
end Sw
/- Contracts of the functions of status: Class, Clash, may, Line; and of the reference's May and Line. -/
set_option linter.unusedVariables false
set_option linter.unusedSimpArgs false
namespace Sw
open Go Go.RowKit
theorem clsS_one : clsS 1 = ⟨#[98, 111, 116, 104]⟩ := rfl
theorem clsS_two : clsS 2 = ⟨#[103, 111, 110, 101]⟩ := rfl
theorem clsS_three : clsS 3 = ⟨#[107, 105, 110, 100, 115]⟩ := rfl
theorem clsS_four : clsS 4 = ⟨#[115, 104, 97, 112, 101]⟩ := rfl
theorem clsS_out {n : Int} (h : ¬ (1 ≤ n ∧ n ≤ 4)) : clsS n = ⟨#[]⟩ := by
  unfold clsS
  rw [if_neg (by omega), if_neg (by omega), if_neg (by omega), if_neg (by omega)]
theorem strE (x : ByteArray) : x.toList.isEmpty = decide (x = ⟨#[]⟩) := by
  rw [ByteArray.toList_eq]
  by_cases h : x = ⟨#[]⟩
  · subst h; rfl
  · rw [decide_eq_false h]
    cases hd : x.data.toList with
    | nil => exact absurd (ByteArray.ext (Array.ext' (by simpa using hd))) h
    | cons a b => rfl
theorem clsS_empty (n : Int) : (clsS n).toList.isEmpty = decide (¬ (1 ≤ n ∧ n ≤ 4)) := by
  by_cases h : 1 ≤ n ∧ n ≤ 4
  · rw [decide_eq_false (by simpa using h)]
    rw [strE]
    obtain rfl | rfl | rfl | rfl : n = 1 ∨ n = 2 ∨ n = 3 ∨ n = 4 := by omega
    all_goals rfl
  · rw [decide_eq_true h, clsS_out h, strE]
    rfl
theorem clsS_size (n : Int) : (clsS n).size ≤ 5 := by
  unfold clsS
  split
  · decide
  · split
    · decide
    · split
      · decide
      · split <;> decide
/-- cells of a row, of a clash -/
abbrev rowC (p : ByteArray) (v n : Int) : Array Value := #[.string p, .int .i64 v, .int .i64 n]
abbrev clsC (p : ByteArray) (n : Int) : Array Value := #[.string p, .int .i64 n]
end Sw
namespace Go.Proofs.YtlfeeiloijmagaaGreatDoor
open Go Go.RowKit
open Sw
set_option maxRecDepth 100000 in
set_option maxHeartbeats 2000000 in
theorem stClass_any (w : World) (n : Int) :
    Calls Tryz.prog 54 #[.int .i64 n] w fun e w' => e = .returned (.string (clsS n)) ∧ w = w' := by
  by_cases h1 : 1 ≤ n
  · by_cases h4 : n ≤ 4
    · obtain rfl | rfl | rfl | rfl : n = 1 ∨ n = 2 ∨ n = 3 ∨ n = 4 := by omega
      all_goals
        clear h1 h4
        have i0 : ∀ w, (Instr.index 141 (.agg #[.string ⟨#[98, 111, 116, 104]⟩, .string ⟨#[103, 111, 110, 101]⟩, .string ⟨#[107, 105, 110, 100, 115]⟩, .string ⟨#[115, 104, 97, 112, 101]⟩]) (.int .i64 0)).run Tryz.prog w = .ok (.string ⟨#[98, 111, 116, 104]⟩) w := fun _ => by kernel_rfl
        have i1 : ∀ w, (Instr.index 141 (.agg #[.string ⟨#[98, 111, 116, 104]⟩, .string ⟨#[103, 111, 110, 101]⟩, .string ⟨#[107, 105, 110, 100, 115]⟩, .string ⟨#[115, 104, 97, 112, 101]⟩]) (.int .i64 1)).run Tryz.prog w = .ok (.string ⟨#[103, 111, 110, 101]⟩) w := fun _ => by kernel_rfl
        have i2 : ∀ w, (Instr.index 141 (.agg #[.string ⟨#[98, 111, 116, 104]⟩, .string ⟨#[103, 111, 110, 101]⟩, .string ⟨#[107, 105, 110, 100, 115]⟩, .string ⟨#[115, 104, 97, 112, 101]⟩]) (.int .i64 2)).run Tryz.prog w = .ok (.string ⟨#[107, 105, 110, 100, 115]⟩) w := fun _ => by kernel_rfl
        have i3 : ∀ w, (Instr.index 141 (.agg #[.string ⟨#[98, 111, 116, 104]⟩, .string ⟨#[103, 111, 110, 101]⟩, .string ⟨#[107, 105, 110, 100, 115]⟩, .string ⟨#[115, 104, 97, 112, 101]⟩]) (.int .i64 3)).run Tryz.prog w = .ok (.string ⟨#[115, 104, 97, 112, 101]⟩) w := fun _ => by kernel_rfl
        go_enter Tryz.func54, Tryz.ntmps54
        go_wp2_with fail
        go_ret
        exact ⟨rfl, rfl⟩
    · rw [clsS_out (by omega)]
      have h1' : ¬ n < 1 := by omega
      have h4' : 4 < n := by omega
      clear h1 h4
      go_enter Tryz.func54, Tryz.ntmps54
      go_wp2_with fail
      go_ret
      exact ⟨rfl, rfl⟩
  · rw [clsS_out (by omega)]
    have h1' : n < 1 := by omega
    clear h1
    go_enter Tryz.func54, Tryz.ntmps54
    go_wp2_with fail
    go_ret
    exact ⟨rfl, rfl⟩
set_option maxRecDepth 100000 in
set_option maxHeartbeats 2000000 in
theorem stClash_any (w : World) (p : ByteArray) (n : Int) (hp : p.size ≤ 100000) :
    Calls Tryz.prog 33 #[.agg (clsC p n)] w fun e w' => e = .returned (.string (clashS p n)) ∧ Below w.heap.size w w' := by
  have HC := Lib.hid (fun W => stClass_any W n)
  have HR := Lib.hid (fun W => right_any W p (by omega))
  have hce := clsS_empty n
  have hB := Blk.new w 82 (clsC p n)
  have hb1 := (Below.refl w.heap.size w).alloc (Nat.le_refl _) (.cells (clsC p n) 82)
  have k0 : (w.alloc (.cells (clsC p n) 82)).cell? ⟨w.heap.size, 0, none⟩ = some (.string p) := hB.cell 0
  have k1 : (w.alloc (.cells (clsC p n) 82)).cell? ⟨w.heap.size, 1, none⟩ = some (.int .i64 n) := hB.cell 1
  have HB := Lib.hid hB; clear hB
  have HB1 := Lib.hid hb1; clear hb1
  by_cases hn : 1 ≤ n ∧ n ≤ 4
  · rw [decide_eq_false (by simpa using hn)] at hce
    cases hr : rightL p.data.toList with
    | true =>
      have hs : clashS p n = (⟨#[33, 32]⟩ ++ clsS n) ++ ⟨#[32]⟩ ++ p := by unfold clashS; rw [if_pos ⟨hn, hr⟩]
      rw [hs]
      rw [hr] at HR
      have hc5 := clsS_size n
      generalize clsS n = C at *
      have q1 : ¬ 9223372036854775807 < 2 + C.size := by omega
      have q2 : ¬ 9223372036854775807 < 2 + C.size + 1 := by omega
      have q3 : ¬ 9223372036854775807 < 2 + C.size + 1 + p.size := by omega
      clear hs hn hr
      go_enter Tryz.func33, Tryz.ntmps33
      go_wp2_with fail
      refine (HC.out _).mono ?_
      rintro e _ ⟨rfl, rfl⟩
      go_wp2_with fail
      refine (HR.out _).mono ?_
      rintro e w2 ⟨rfl, hb2⟩
      have hB2 := HB.out.below hb2 HB.out.lt
      have hb3 := HB1.out.trans (hb2.mono HB1.out.size)
      have hl2 := hB2.lt
      have k0 : ∀ m : Held (Aft w2), (HeldW m).cell? ⟨w.heap.size, 0, none⟩ = some (.string p) := fun m => (Aft.cell m hl2).trans (hB2.cell 0)
      have k1 : ∀ m : Held (Aft w2), (HeldW m).cell? ⟨w.heap.size, 1, none⟩ = some (.int .i64 n) := fun m => (Aft.cell m hl2).trans (hB2.cell 1)
      haveI := Aft.some w2
      go_wp2_with fail
      refine wp_region_class (Aft w2) (by kernel_rfl) (by kernel_rfl) (Aft.start w2) ?_
      repeat (go_big_quiet_step (with_reducible exact held_same (HC.out _)))
      refine wpQuiet_nil ?_
      rintro _ ⟨nn, rfl⟩
      have HW := HeldW_spec nn
      go_wp2_with fail
      go_ret
      exact ⟨rfl, hb3.trans (HW.mono hb3.size)⟩
    | false =>
      have hs : clashS p n = ⟨#[]⟩ := by unfold clashS; rw [if_neg (by rw [hr]; simp)]
      rw [hs]
      rw [hr] at HR
      generalize clsS n = C at *
      clear hs hn hr
      go_enter Tryz.func33, Tryz.ntmps33
      go_wp2_with fail
      refine (HC.out _).mono ?_
      rintro e _ ⟨rfl, rfl⟩
      go_wp2_with fail
      refine (HR.out _).mono ?_
      rintro e w2 ⟨rfl, hb2⟩
      have hb3 := HB1.out.trans (hb2.mono HB1.out.size)
      go_wp2_with fail
      go_ret
      exact ⟨rfl, hb3⟩
  · have hs : clashS p n = ⟨#[]⟩ := by unfold clashS; rw [if_neg (by intro h; exact hn h.1)]
    rw [hs]
    rw [decide_eq_true hn] at hce
    generalize clsS n = C at *
    clear hs hn
    go_enter Tryz.func33, Tryz.ntmps33
    go_wp2_with fail
    refine (HC.out _).mono ?_
    rintro e _ ⟨rfl, rfl⟩
    go_wp2_with fail
    go_ret
    exact ⟨rfl, HB1.out⟩
/-- which rows may be, case by case -/
theorem may_cases (p : ByteArray) (v n : Int) :
    (rightL p.data.toList = false ∧ mayR p v n = false) ∨ (rightL p.data.toList = true ∧ v < 0 ∧ mayR p v n = false) ∨ (rightL p.data.toList = true ∧ 3 < v ∧ mayR p v n = false) ∨
    (rightL p.data.toList = true ∧ v = 3 ∧ n < 1 ∧ mayR p v n = false) ∨ (rightL p.data.toList = true ∧ v = 3 ∧ 3 < n ∧ mayR p v n = false) ∨ (rightL p.data.toList = true ∧ v = 3 ∧ 1 ≤ n ∧ n ≤ 3 ∧ mayR p v n = true) ∨
    (rightL p.data.toList = true ∧ 0 ≤ v ∧ v < 3 ∧ n ≠ 0 ∧ mayR p v n = false) ∨ (rightL p.data.toList = true ∧ 0 ≤ v ∧ v < 3 ∧ n = 0 ∧ mayR p v n = true) := by
  unfold mayR
  cases rightL p.data.toList with
  | false => left; exact ⟨rfl, rfl⟩
  | true =>
    simp only [Bool.true_and]
    by_cases h3 : v = 3
    · rw [if_pos h3]
      by_cases h1 : 1 ≤ n
      · by_cases h2 : n ≤ 3
        · simp [h1, h2, h3]
        · have : 3 < n := by omega
          simp [h1, h2, h3, this]
      · have : n < 1 := by omega
        simp [h1, h3, this]
    · rw [if_neg h3]
      by_cases h0 : 0 ≤ v
      · by_cases h4 : v < 3
        · by_cases hn : n = 0
          · simp [h0, h4, hn, h3]
          · simp [h0, h4, hn, h3]
        · have : 3 < v := by omega
          simp [h0, h4, h3, this]
      · have : v < 0 := by omega
        simp [h0, h3, this]
set_option maxRecDepth 100000 in
set_option maxHeartbeats 4000000 in
theorem stMay_any (w : World) (p : ByteArray) (v n : Int) (hp : p.size ≤ 100000) :
    Calls Tryz.prog 32 #[.agg (rowC p v n)] w fun e w' => e = .returned (.bool (mayR p v n)) ∧ Below w.heap.size w w' := by
  have HR := Lib.hid (fun W => right_any W p (by omega))
  have hB := Blk.new w 52 (rowC p v n)
  have hb1 := (Below.refl w.heap.size w).alloc (Nat.le_refl _) (.cells (rowC p v n) 52)
  have k0 : (w.alloc (.cells (rowC p v n) 52)).cell? ⟨w.heap.size, 0, none⟩ = some (.string p) := hB.cell 0
  have HB := Lib.hid hB; clear hB
  have HB1 := Lib.hid hb1; clear hb1
  have hc := may_cases p v n
  generalize mayR p v n = R at *
  generalize rightL p.data.toList = r at *
  rcases hc with ⟨rfl, rfl⟩ | ⟨rfl, h, rfl⟩ | ⟨rfl, h, rfl⟩ | ⟨rfl, rfl, h, rfl⟩ | ⟨rfl, rfl, h, rfl⟩ | ⟨rfl, rfl, h, h', rfl⟩ | ⟨rfl, h, h', h'', rfl⟩ | ⟨rfl, h, h', rfl, rfl⟩
  case inl =>
    go_enter Tryz.func32, Tryz.ntmps32
    go_wp2_with fail
    refine (HR.out _).mono ?_
    rintro e w2 ⟨rfl, hb2⟩
    have hb3 := HB1.out.trans (hb2.mono HB1.out.size)
    go_wp2_with fail
    go_ret
    exact ⟨rfl, hb3⟩
  all_goals
    try (have g1 : ¬ v < 0 := by omega)
    try (have g2 : ¬ 3 < v := by omega)
    try (have g3 : (v == 3) = false := by rw [beq_eq_false_iff_ne]; omega)
    try (have g4 : (n == 0) = false := by rw [beq_eq_false_iff_ne]; omega)
    try (have g5 : ¬ 1 ≤ n := by omega)
    try (have g6 : ¬ n ≤ 3 := by omega)
    try clear h''
    go_enter Tryz.func32, Tryz.ntmps32
    go_wp2_with fail
    refine (HR.out _).mono ?_
    rintro e w2 ⟨rfl, hb2⟩
    have hB2 := HB.out.below hb2 HB.out.lt
    have hb3 := HB1.out.trans (hb2.mono HB1.out.size)
    have k1 := hB2.cell 1
    have k2 := hB2.cell 2
    simp at k1 k2
    go_wp2_with fail
    go_ret
    exact ⟨by first | rfl | (show Ending.returned (Value.bool (decide (n ≤ 3))) = _; rw [decide_eq_false (by omega)]), hb3⟩
end Go.Proofs.YtlfeeiloijmagaaGreatDoor
/- Contracts of status.Line, and of the reference's May and Line. -/
set_option linter.unusedVariables false
set_option linter.unusedSimpArgs false
namespace Sw
open Go Go.RowKit
theorem lineS_no {p : ByteArray} {v n : Int} (h : mayR p v n = false) : lineS p v n = ⟨#[]⟩ := lineS_nil.2 h
theorem lineS_three {p : ByteArray} {n : Int} (h : mayR p 3 n = true) : lineS p 3 n = clashS p n := by
  have h2 := h
  unfold mayR at h2
  rw [Bool.and_eq_true, if_pos rfl, decide_eq_true_eq] at h2
  unfold lineS clashS
  rw [if_pos h, if_pos rfl, if_pos ⟨by omega, h2.1⟩]
theorem lineS_sgn {p : ByteArray} {v n : Int} (h : mayR p v n = true) (h3 : v ≠ 3) : lineS p v n = sgnS v ++ p := by
  unfold lineS
  rw [if_pos h, if_neg h3]
theorem may_in {p : ByteArray} {v n : Int} (h : mayR p v n = true) : (v = 3 ∧ (n = 1 ∨ n = 2 ∨ n = 3)) ∨ (v = 0 ∧ n = 0) ∨ (v = 1 ∧ n = 0) ∨ (v = 2 ∧ n = 0) := by
  unfold mayR at h
  rw [Bool.and_eq_true] at h
  by_cases h3 : v = 3
  · rw [if_pos h3, decide_eq_true_eq] at h
    omega
  · rw [if_neg h3, decide_eq_true_eq] at h
    omega
theorem lineS_size (p : ByteArray) (v n : Int) : (lineS p v n).size ≤ p.size + 8 := by
  cases h : mayR p v n with
  | false => rw [lineS_no h]; exact Nat.zero_le _
  | true =>
    rcases may_in h with ⟨rfl, _⟩ | ⟨rfl, _⟩ | ⟨rfl, _⟩ | ⟨rfl, _⟩
    · unfold lineS
      rw [if_pos h, if_pos rfl]
      simp only [ByteArray.size_append]
      have := clsS_size n
      have : (⟨#[33, 32]⟩ : ByteArray).size = 2 := rfl
      have : (⟨#[32]⟩ : ByteArray).size = 1 := rfl
      omega
    all_goals
      rw [lineS_sgn h (by decide), ByteArray.size_append, sgn_size]
      omega
end Sw
namespace Go.Proofs.YtlfeeiloijmagaaGreatDoor
open Go Go.RowKit
open Sw
set_option maxRecDepth 100000 in
set_option maxHeartbeats 4000000 in
theorem stLine_any (w : World) (p : ByteArray) (v n : Int) (hp : p.size ≤ 100000) :
    Calls Tryz.prog 16 #[.agg (rowC p v n)] w fun e w' => e = .returned (.string (lineS p v n)) ∧ Below w.heap.size w w' := by
  have HM := Lib.hid (fun W => stMay_any W p v n hp)
  have HC := Lib.hid (fun W => stClash_any W p n hp)
  have hB := Blk.new w 52 (rowC p v n)
  have hb1 := (Below.refl w.heap.size w).alloc (Nat.le_refl _) (.cells (rowC p v n) 52)
  have k0 := hB.cell 0
  have k1 := hB.cell 1
  have k2 := hB.cell 2
  simp only [rowC, List.getElem?_toArray, List.getElem?_cons_zero, List.getElem?_cons_succ] at k0 k1 k2
  have HB := Lib.hid hB; clear hB
  have HB1 := Lib.hid hb1; clear hb1
  cases hm : mayR p v n with
  | false =>
    rw [hm] at HM
    rw [lineS_no hm]
    clear hm
    go_enter Tryz.func16, Tryz.ntmps16
    go_wp2_with fail
    refine (HM.out _).mono ?_
    rintro e w2 ⟨rfl, hb2⟩
    have hb3 := HB1.out.trans (hb2.mono HB1.out.size)
    go_wp2_with fail
    go_ret
    exact ⟨rfl, hb3⟩
  | true =>
    rw [hm] at HM
    rcases may_in hm with ⟨rfl, _⟩ | ⟨rfl, rfl⟩ | ⟨rfl, rfl⟩ | ⟨rfl, rfl⟩
    · rw [lineS_three hm]
      clear hm
      go_enter Tryz.func16, Tryz.ntmps16
      go_wp2_with fail
      refine (HM.out _).mono ?_
      rintro e w2 ⟨rfl, hb2⟩
      have hB2 := HB.out.below hb2 HB.out.lt
      have hb3 := HB1.out.trans (hb2.mono HB1.out.size)
      have k0 := hB2.cell 0
      have k1 := hB2.cell 1
      have k2 := hB2.cell 2
      simp at k0 k1 k2
      go_wp2_with fail
      refine (HC.out _).mono ?_
      rintro e w4 ⟨rfl, hb4⟩
      have hb5 := hb3.trans (hb4.mono hb3.size)
      go_wp2_with fail
      go_ret
      exact ⟨rfl, hb5⟩
    all_goals
      rw [lineS_sgn hm (by decide)]
      clear hm
      have q1 : ¬ 9223372036854775807 < 2 + p.size := by omega
      have i0 : ∀ w, (Instr.index 83 (.agg #[.string ⟨#[61, 32]⟩, .string ⟨#[60, 32]⟩, .string ⟨#[62, 32]⟩]) (.int .i64 0)).run Tryz.prog w = .ok (.string ⟨#[61, 32]⟩) w := fun _ => by kernel_rfl
      have i1 : ∀ w, (Instr.index 83 (.agg #[.string ⟨#[61, 32]⟩, .string ⟨#[60, 32]⟩, .string ⟨#[62, 32]⟩]) (.int .i64 1)).run Tryz.prog w = .ok (.string ⟨#[60, 32]⟩) w := fun _ => by kernel_rfl
      have i2 : ∀ w, (Instr.index 83 (.agg #[.string ⟨#[61, 32]⟩, .string ⟨#[60, 32]⟩, .string ⟨#[62, 32]⟩]) (.int .i64 2)).run Tryz.prog w = .ok (.string ⟨#[62, 32]⟩) w := fun _ => by kernel_rfl
      go_enter Tryz.func16, Tryz.ntmps16
      go_wp2_with fail
      refine (HM.out _).mono ?_
      rintro e w2 ⟨rfl, hb2⟩
      have hB2 := HB.out.below hb2 HB.out.lt
      have hb3 := HB1.out.trans (hb2.mono HB1.out.size)
      have k0 := hB2.cell 0
      have k1 := hB2.cell 1
      have k2 := hB2.cell 2
      simp at k0 k1 k2
      go_wp2_with fail
      have l0 : ∀ m, (w2.drewN m).cell? ⟨w.heap.size, 0, none⟩ = some (.string p) := fun m => k0
      have l1 : ∀ m, (w2.drewN m).cell? ⟨w.heap.size, 1, none⟩ = w2.cell? ⟨w.heap.size, 1, none⟩ := fun m => rfl
      rw [k1] at l1
      go_quiet (fail)
      go_wp2_with fail
      go_ret
      exact ⟨rfl, below_drewN hb3 _⟩
end Go.Proofs.YtlfeeiloijmagaaGreatDoor
/- The reference's Same of rows; the law's back; Busy; the document's example of layer 38. -/
set_option linter.unusedVariables false
set_option linter.unusedSimpArgs false
namespace Go.Proofs.YtlfeeiloijmagaaGreatDoor
open Go Go.RowKit
open Sw
set_option maxRecDepth 100000 in
set_option maxHeartbeats 4000000 in
theorem same38_any (w : World) (v1 v2 : Value) (l : List RowE) (h1 : SlV w 3 eCRW v1 l) (h2 : SlV w 3 eCRW v2 l) :
    Calls Tryz.prog 9 #[v1, v2] w fun e w' => e = .returned (.bool true) ∧ ∃ n, w' = w.drewN n := by
  obtain ⟨A1, c1, rfl, hc1, hm1, s1⟩ := h1
  obtain ⟨A2, c2, rfl, hc2, hm2, s2⟩ := h2
  unfold maxLen at hm1 hm2
  obtain ⟨N, hN⟩ : ∃ N, l.length = N := ⟨_, rfl⟩
  rw [hN] at hc1 hc2 ⊢
  have HL := Lib.hid hN; clear hN
  have HS := Lib.hid (And.intro s1 s2); clear s1 s2
  go_enter Tryz.func9, Tryz.ntmps9
  go_wp2_with fail
  go_loopw [13] (fun i wr => ∃ k q : Nat, k ≤ N ∧ i = .int .i64 k ∧ wr = w.drewN q) (fun i _ => N - (intOf i).toNat)
  case atStart => exact ⟨0, 0, Nat.zero_le _, rfl, rfl⟩
  case round =>
    obtain ⟨k, q, hk, rfl, rfl⟩ := hrel
    by_cases hlt : k < N
    · have k1 : k < l.length := by have := HL.out; omega
      obtain ⟨b1, o1, rfl, _, q1⟩ := HS.out.1 (by omega)
      obtain ⟨b2, o2, rfl, _, q2⟩ := HS.out.2 (by omega)
      have g1 := q1 k k1 0 (by omega)
      have g2 := q2 k k1 0 (by omega)
      have g3 := q1 k k1 1 (by omega)
      have g4 := q2 k k1 1 (by omega)
      have g5 := q1 k k1 2 (by omega)
      have g6 := q2 k k1 2 (by omega)
      simp [eCRW] at g1 g2 g3 g4 g5 g6
      clear q1 q2
      have i0 : (0 : Int) ≤ k := by omega
      have i1 : (k : Int) < N := by omega
      generalize l[k] = x at *
      obtain ⟨p, st, cl⟩ := x
      simp only at g1 g2 g3 g4 g5 g6
      have te : (p.toList == p.toList) = true := by simp
      go_wp2_with fail
      go_quiet (fail)
      go_wp2_with fail
      go_roundw
      case rel => exact ⟨k + 1, q + nq, by omega, by go_num, rfl⟩
      case measure => simp [intOf]; omega
    · obtain rfl : k = N := by omega
      go_wp2_with fail
      go_ret
      exact ⟨rfl, q, rfl⟩
theorem busy1_any (w : World) (x : RowE) :
    Calls Tryz.prog 27 #[.agg (eCRW x).toArray] w fun e w' => e = .returned (.bool (decide (x.2.1 = 0))) ∧ Below w.heap.size w w' := by
  obtain ⟨p, s, c⟩ := x
  have hb1 := (Below.refl w.heap.size w).alloc (Nat.le_refl _) (.cells #[.string p, .int .i64 s, .int .i64 c] 52)
  have HB := Lib.hid hb1; clear hb1
  have hd : (s == 0) = decide (s = 0) := by by_cases h : s = 0 <;> simp [h]
  simp only [eCRW]
  generalize decide (s = 0) = b at *
  go_enter Tryz.func27, Tryz.ntmps27
  go_wp2_with fail
  go_ret
  exact ⟨rfl, HB.out⟩
set_option maxRecDepth 100000 in
set_option maxHeartbeats 4000000 in
theorem busy_any (w : World) (v : Value) (l : List RowE) (h : SlV w 3 eCRW v l) (hl : l.length ≤ 100000) :
    Calls Tryz.prog 11 #[v] w fun e w' => ∃ u, e = .returned u ∧ w'.ownsRow w.heap.size 52 3 u (busyR l).length ((busyR l).flatMap eCRW) ∧ Below w.heap.size w w' := by
  have HC := Lib.hid (slCloneRW_any eCRW eCRW_len eCRW_one w v l h (by omega))
  obtain ⟨A, c, rfl, _, _, _⟩ := h
  generalize hz : l.length = z at *
  have HZ := Lib.hid hz; clear hz
  go_enter Tryz.func11, Tryz.ntmps11
  go_wp2_with fail
  refine HC.out.mono ?_
  rintro e w1 ⟨u, rfl, ho, hb1⟩
  have ho' : w1.ownsRow w.heap.size 52 3 u l.length (l.flatMap eCRW) := by rw [HZ.out]; exact ho
  have HD := Lib.hid (slDelFuncRW_any (fun f => decide (f.2.1 = 0)) (fun _ => True) w1 _ u l ho' (fun _ _ _ _ => trivial) 0 (by rw [HZ.out]; omega) trivial (fun W x _ _ => busy1_any W x))
  have hrow := fun k (hk : u.ownBlock = some k) => (ho.lt k hk).1
  have HR := Lib.hid (And.intro hb1 hrow)
  obtain ⟨A2, c2, rfl, _, _, _⟩ := SlV_of_any ho
  clear ho ho' hb1 hrow HC
  go_wp2_with fail
  refine HD.out.mono ?_
  rintro e w2 ⟨v2, rfl, ho2, hg2, hr2⟩
  have hb2 := HR.out.1.grown hg2 HR.out.1.size (fun k hk => HR.out.2 k hk)
  have HF := Lib.hid (And.intro (show w2.ownsRow w.heap.size 52 3 v2 (busyR l).length ((busyR l).flatMap eCRW) from ho2) hb2)
  obtain ⟨A3, c3, rfl, _, _, _⟩ := SlV_of_any ho2
  clear ho2 hg2 hr2 hb2
  go_wp2_with fail
  go_ret
  exact ⟨_, rfl, HF.out.1, HF.out.2⟩
theorem infoR38 : (Tryz.prog.info? 42).map (fun i => (i.zero, i.size, i.bytes)) = some (some (.agg #[.string ⟨#[]⟩, .int .i64 0, .int .i64 0]), 3, 32) := by kernel_rfl
/-- a row of the reference's rows that the call owns -/
def OwnR38 (w : World) (base : Nat) (u : Value) (l : List RowE) : Prop := w.ownsRow base 42 3 u l.length (l.flatMap eCRW)
theorem OwnR38.app {w1 : World} {base g cap n : Nat} {l : List RowE} {x : RowE} (h : w1.ownsRow base 42 3 (.slice (some ⟨g, 0, none⟩) (n + 1) cap) (n + 1) (l.flatMap eCRW ++ eCRW x)) (hn : l.length = n) : OwnR38 w1 base (.slice (some ⟨g, 0, none⟩) (n + 1) cap) (l ++ [x]) := by
  unfold OwnR38
  rw [List.length_append, List.length_singleton, hn, List.flatMap_append]
  simpa using h
theorem OwnR38.slv {w : World} {base : Nat} {u : Value} {l : List RowE} (h : OwnR38 w base u l) : SlV w 3 eCRW u l := SlV.of_own h eCRW_len (by decide)
set_option maxRecDepth 100000 in
set_option maxHeartbeats 4000000 in
theorem back38_any (w : World) (v : Value) (l : List RowE) (h : SlV w 3 eCRW v l) (hl : l.length ≤ 100000) :
    Calls Tryz.prog 10 #[v] w fun e w' => ∃ u, e = .returned u ∧ OwnR38 w' w.heap.size u l ∧ Below w.heap.size w w' := by
  obtain ⟨A, k, rfl, hk1, hk2, hsl⟩ := h
  unfold maxLen at hk2
  obtain ⟨n, hn⟩ : ∃ n, l.length = n := ⟨_, rfl⟩
  rw [hn] at hk1 hl ⊢
  have HN := Lib.hid hn
  have HS := Lib.hid hsl
  clear hn hsl
  go_enter Tryz.func10, Tryz.ntmps10
  go_wp2_with fail
  go_loopw [3, 8] (fun o iv wr => ∃ i : Nat, iv = .int .i64 i ∧ i ≤ n ∧ OwnR38 wr w.heap.size o (l.take i) ∧ Below w.heap.size w wr) (fun _ iv _ => n - (intOf iv).toNat)
  case atStart => exact ⟨0, rfl, Nat.zero_le _, World.ownsRow_nil _ _ _ _, Below.refl _ _⟩
  case round =>
    obtain ⟨i, rfl, hi, ho, hb⟩ := hrel
    have hbs := hb.size
    by_cases hlt : i < n
    · have hiL : i < l.length := by have := HN.out; omega
      obtain ⟨b, off, rfl, hbb, hcs⟩ := (HS.out.below hb (Nat.le_refl _)) (by omega)
      have c0 := hcs i hiL 0 (by omega)
      have c1 := hcs i hiL 1 (by omega)
      have c2 := hcs i hiL 2 (by omega)
      simp only [eCRW, List.getElem?_cons_succ, List.getElem?_cons_zero, Nat.add_zero] at c0 c1 c2
      clear hcs
      have hi1 : (i : Int) < n := by omega
      have hst : l.take (i + 1) = l.take i ++ [l[i]] := by rw [List.take_succ_eq_append_getElem hiL]
      have hml : (l.take i).length = i := by rw [List.length_take]; omega
      obtain ⟨⟨q, s, c⟩, hx⟩ : ∃ x, l[i] = x := ⟨_, rfl⟩
      simp only [hx] at c0 c1 c2 hst
      clear hx
      obtain ⟨A4, k4, rfl, _, _, _⟩ := SlV_of_any ho
      have hba : Below wr.heap.size wr (wr.alloc (.cells #[.string q, .int .i64 s, .int .i64 c] 52)) := (Below.refl _ wr).alloc (Nat.le_refl _) _
      have HO := Lib.hid (own_kept ho hba)
      have HB := Lib.hid (hb.trans (hba.mono hb.size))
      have hs2 := HB.out.size
      have HST := Lib.hid (And.intro hst hml)
      clear ho hb hst hba
      generalize l.take i = F at *
      rw [hml] at HO ⊢
      clear hml
      obtain ⟨w2, hw2⟩ : ∃ w2, wr.alloc (.cells #[.string q, .int .i64 s, .int .i64 c] 52) = w2 := ⟨_, rfl⟩
      rw [hw2] at HO HB hs2
      have hB2 : Blk w2 wr.heap.size 52 #[.string q, .int .i64 s, .int .i64 c] := by rw [← hw2]; exact Blk.new _ _ _
      have z0 := hB2.cell 0
      have z1 := hB2.cell 1
      have z2 := hB2.cell 2
      simp only [List.getElem?_toArray, List.getElem?_cons_succ, List.getElem?_cons_zero] at z0 z1 z2
      clear hB2
      go_upto_region 5 with fail
      clear hw2
      go_wp2_with (at_builtin; refine wpList_app rfl _ _ 33 rfl w.heap.size 42 (.agg #[.string ⟨#[]⟩, .int .i64 0, .int .i64 0]) 3 32 Tryz.underlying33 infoR38 rfl (by decide) _ i _ rfl (HO.out.alloc _) w2.heap.size 1 #[.string q, .int .i64 s, .int .i64 c] 42 rfl (Blk.new _ _ _) rfl (by simp [Value.oneCell']) (by omega) (by decide) (by simp; omega) _ rfl ?_; intro g cap w3 hown1 hgrow1 hat hlt1)
      have HNX := Lib.hid (And.intro (OwnR38.app (x := (q, s, c)) hown1 HST.out.2) (own_below HO.out (HB.out.alloc HB.out.size _) hgrow1 (Nat.le_refl _) (by simp; omega)))
      clear hown1 hgrow1 hat hlt1
      go_wp2_with fail
      go_roundw
      case rel => exact ⟨i + 1, by go_num, by omega, by rw [HST.out.1]; exact HNX.out.1, HNX.out.2⟩
      case measure => simp [intOf]; omega
    · obtain rfl : n = i := by omega
      have hf : l.take n = l := List.take_of_length_le (by have := HN.out; omega)
      rw [hf] at ho
      obtain ⟨A4, k4, rfl, _, _, _⟩ := SlV_of_any ho
      have HF := Lib.hid (And.intro (⟨_, rfl, ho⟩ : ∃ u, Ending.returned (.slice A4 l.length k4) = .returned u ∧ OwnR38 wr w.heap.size u l) hb)
      clear ho hb hf
      generalize l.length = z at *
      go_wp2_with fail
      go_ret
      obtain ⟨u, he, ho⟩ := HF.out.1
      exact ⟨u, he, ho, HF.out.2⟩
theorem lineS_lives38 : lineS ⟨#[97, 47, 98]⟩ 3 2 = ⟨#[33, 32, 103, 111, 110, 101, 32, 97, 47, 98]⟩ := by decide +kernel
set_option maxRecDepth 100000 in
set_option maxHeartbeats 1000000 in
theorem stLives38_any (w : World) :
    Calls Tryz.prog 5 #[] w fun e w' => e = .returned (.bool true) ∧ Below w.heap.size w w' := by
  have HL := Lib.hid (fun W => (by
    have := stLine_any W ⟨#[97, 47, 98]⟩ 3 2 (by decide)
    rw [lineS_lives38] at this
    exact this : Calls Tryz.prog 16 #[.agg #[.string ⟨#[97, 47, 98]⟩, .int .i64 3, .int .i64 2]] W fun e w' => e = .returned (.string ⟨#[33, 32, 103, 111, 110, 101, 32, 97, 47, 98]⟩) ∧ Below W.heap.size W w'))
  go_enter Tryz.func5, Tryz.ntmps5
  go_wp2_with fail
  refine (HL.out _).mono ?_
  rintro e w2 ⟨rfl, hb⟩
  go_wp2_with fail
  go_ret
  exact ⟨rfl, hb⟩
end Go.Proofs.YtlfeeiloijmagaaGreatDoor
