/- Contracts of name.Join and what it calls. -/
import Derived.Test.YtjglkbbhihlcgaaDoorSplitOne
set_option linter.unusedVariables false
set_option linter.unusedSimpArgs false
namespace Sw
open Go Go.RowKit
/-- has a text a slash? -/
def hasSl (x : ByteArray) : Bool := decide ((47 : UInt8) ∈ x.data.toList)
theorem hasSl_ix (x : ByteArray) : decide (0 ≤ Lib.indexByte x.data.toList 47) = hasSl x := by
  unfold hasSl
  rw [decide_eq_decide]
  have hge := Lib.indexByte_ge x.data.toList 47
  obtain ⟨j, hj⟩ : ∃ j, Lib.indexByte x.data.toList 47 = j := ⟨_, rfl⟩
  constructor
  · intro h
    obtain ⟨i, hi⟩ := Int.eq_ofNat_of_zero_le h
    obtain ⟨h1, h2, h3⟩ := slash_split hi
    rw [h2]
    simp
  · intro h
    by_cases h0 : 0 ≤ Lib.indexByte x.data.toList 47
    · exact h0
    · exact absurd h (slash_none (by omega))
theorem join_jnL : ∀ l : List (List UInt8), Lib.join l [47] = jnL l
  | [] => rfl
  | [x] => by rw [jnL]; unfold Lib.join; simp [List.intercalate, List.intersperse]
  | x :: y :: l => by
    have ih := join_jnL (y :: l)
    rw [jnL_cons x _ (by simp), ← ih]
    unfold Lib.join
    simp [List.intercalate, List.intersperse]
/-- what Join answers -/
def joinS (l : List ByteArray) : ByteArray := if (l.any hasSl || !rightL (jnL (datL l))) = true then ⟨#[]⟩ else mkB (jnL (datL l))
def joinB (l : List ByteArray) : Bool := !(l.any hasSl || !rightL (jnL (datL l)))
end Sw
namespace Go.Proofs.YtjglkbbhihlcgaaDoor
open Go Go.RowKit
open Sw
set_option maxRecDepth 100000 in
theorem join1_any (w : World) (s : ByteArray) :
    Calls Tryd.prog 52 #[.string s] w fun e w' => e = .returned (.bool (hasSl s)) ∧ w' = w := by
  have hc := Tryd.strings_Contains_one s 47 w
  rw [hasSl_ix] at hc
  have HC := Lib.hid hc; clear hc
  go_enter Tryd.func52, Tryd.ntmps52
  go_wp2_with fail
  refine HC.out.mono ?_
  rintro e w' ⟨rfl, rfl⟩
  go_wp2_with fail
  go_ret
  exact ⟨rfl, rfl⟩
set_option maxRecDepth 100000 in
set_option maxHeartbeats 1000000 in
theorem idxFunc_any (w : World) (A : Option Addr) (n c : Nat) (l : List ByteArray) (hl : l.length = n) (hn : n ≤ maxLen) (hsl : SlOf w 1 bE A l) :
    Calls Tryd.prog 64 #[.slice A n c, .func (.func 52) #[] #[]] w fun e w' => ∃ r : Int, e = .returned (.int .i64 r) ∧ decide (0 ≤ r) = l.any hasSl ∧ w = w' := by
  unfold maxLen at hn
  have HS := Lib.hid hsl; clear hsl
  have HL := Lib.hid hl; clear hl
  have HJ := Lib.hid join1_any
  go_enter Tryd.func64, Tryd.ntmps64
  go_wp2_with fail
  go_loopw [4, 5, 8] (fun r _ iv wr => ∃ i : Nat, i ≤ n ∧ r = .int .i64 0 ∧ iv = .int .i64 i ∧ (∀ j (h : j < l.length), j < i → hasSl l[j] = false) ∧ w = wr) (fun _ _ iv _ => n - (intOf iv).toNat)
  case atStart => exact ⟨0, Nat.zero_le _, rfl, rfl, fun j h h' => by omega, rfl⟩
  case round =>
    obtain ⟨i, hi, rfl, rfl, hall, rfl⟩ := hrel
    by_cases hlt : i < n
    · have hiL : i < l.length := by have := HL.out; omega
      obtain ⟨b, off, rfl, hbb, hcs⟩ := HS.out (by omega)
      have hci := hcs i hiL 0 (by omega)
      simp [bE] at hci
      have hji := HJ.out w l[i]
      have hany := fun (h : hasSl l[i] = true) => show l.any hasSl = true from List.any_eq_true.2 ⟨l[i], List.getElem_mem hiL, h⟩
      have HST := Lib.hid (fun (hp : hasSl l[i] = false) j (h : j < l.length) (hj : j < i + 1) => show hasSl l[j] = false by
        by_cases hjj : j = i
        · subst hjj; exact hp
        · exact hall j h (by omega))
      have hi1 : (i : Int) < n := by omega
      clear hcs hall
      generalize hasSl l[i] = P at *
      generalize l[i] = X at *
      have HJI := Lib.hid hji; clear hji
      have HA := Lib.hid hany; clear hany
      cases P with
      | true =>
        have HF := Lib.hid (HA.out rfl)
        go_wp2_with fail
        refine HJI.out.mono ?_
        rintro e w' ⟨rfl, rfl⟩
        go_wp2_with fail
        go_ret
        exact ⟨_, rfl, by rw [HF.out]; exact decide_eq_true (by omega), rfl⟩
      | false =>
        have HF := Lib.hid (HST.out rfl)
        go_wp2_with fail
        refine HJI.out.mono ?_
        rintro e w' ⟨rfl, rfl⟩
        go_wp2_with fail
        go_roundw
        case rel => exact ⟨i + 1, by omega, rfl, by go_num, HF.out, by simp⟩
        case measure => simp [intOf]; omega
    · obtain rfl : i = n := by omega
      have HF := Lib.hid (show l.any hasSl = false by
        rw [List.any_eq_false]
        intro x hx
        obtain ⟨j, hj, rfl⟩ := List.getElem_of_mem hx
        rw [hall j hj (by have := HL.out; omega)]
        simp)
      clear hall hlt
      go_wp2_with fail
      go_ret
      exact ⟨_, rfl, by rw [HF.out]; exact decide_eq_false (by omega), rfl⟩
set_option maxRecDepth 100000 in
theorem contFunc_any (w : World) (A : Option Addr) (n c : Nat) (l : List ByteArray) (hl : l.length = n) (hn : n ≤ maxLen) (hsl : SlOf w 1 bE A l) :
    Calls Tryd.prog 49 #[.slice A n c, .func (.func 52) #[] #[]] w fun e w' => e = .returned (.bool (l.any hasSl)) ∧ w = w' := by
  have HI := Lib.hid (idxFunc_any w A n c l hl hn hsl)
  go_enter Tryd.func49, Tryd.ntmps49
  go_wp2_with fail
  refine HI.out.mono ?_
  rintro e w' ⟨r, rfl, hr, rfl⟩
  have HR := Lib.hid hr; clear hr
  go_wp2_with fail
  go_ret
  exact ⟨by rw [← HR.out]; first | done | rfl, rfl⟩
theorem strJoin_any (w : World) (A : Option Addr) (n c : Nat) (l : List ByteArray) (hl : l.length = n) (hn : n ≤ 100000) (hnc : n ≤ c) (hsl : SlOf w 1 bE A l) (htot : (jnL (datL l)).length ≤ 1000000) :
    Calls Tryd.prog 51 #[.slice A n c, .string ⟨#[47]⟩] w fun e w' => e = .returned (.string (mkB (jnL (datL l)))) ∧ Below w.heap.size w w' := by
  have hjj : Lib.join (l.map (·.data.toList)) (⟨#[47]⟩ : ByteArray).data.toList = jnL (datL l) := join_jnL _
  cases l with
  | nil =>
    have h0 : n = 0 := hl.symm
    subst h0
    exact (Tryd.strings_Join_none A c ⟨#[47]⟩ w).mono fun e w' h => ⟨h.1, by rw [h.2]; exact Below.refl _ _⟩
  | cons x l =>
    obtain ⟨b, off, rfl, hbb, hcs⟩ := hsl (by simp)
    have h := Tryd.strings_Join b off c (x :: l) ⟨#[47]⟩ w (fun j y hj => by
      obtain ⟨hjl, he⟩ := List.getElem?_eq_some_iff.1 hj
      have := hcs j hjl 0 (by omega)
      rw [Nat.mul_one, Nat.add_zero] at this
      rw [this, he]
      rfl) hbb (by omega) (by omega) (by rw [hjj]; omega)
    rw [hl, hjj] at h
    exact h
set_option maxRecDepth 100000 in
set_option maxHeartbeats 1000000 in
theorem nameJoin_any (w : World) (A : Option Addr) (n c : Nat) (l : List ByteArray) (hl : l.length = n) (hn : n ≤ 100000) (hnc : n ≤ c) (hsl : SlOf w 1 bE A l) (htot : (jnL (datL l)).length ≤ 1000000) :
    Calls Tryd.prog 28 #[.slice A n c] w fun e w' => e = .returned (.tuple #[.string (joinS l), .bool (joinB l)]) ∧ Below w.heap.size w w' := by
  have HJ := Lib.hid (strJoin_any w A n c l hl hn hnc hsl htot)
  have HC := Lib.hid (fun W (hb : Below w.heap.size w W) => contFunc_any W A n c l hl (by unfold maxLen; omega) (hsl.below hb (Nat.le_refl _)))
  have HR := Lib.hid (fun W => right_any W (mkB (jnL (datL l))) (by rw [mkB_size]; exact htot))
  rw [data_mkB] at HR
  have h1 : joinS l = if (l.any hasSl || !rightL (jnL (datL l))) = true then ⟨#[]⟩ else mkB (jnL (datL l)) := rfl
  have h2 : joinB l = !(l.any hasSl || !rightL (jnL (datL l))) := rfl
  clear hsl
  generalize l.any hasSl = a at *
  generalize rightL (jnL (datL l)) = r at *
  generalize mkB (jnL (datL l)) = P at *
  cases a with
  | true =>
    have HF := Lib.hid (And.intro (show joinS l = ⟨#[]⟩ by rw [h1]; rfl) (show joinB l = false by rw [h2]; rfl))
    clear h1 h2
    go_enter Tryd.func28, Tryd.ntmps28
    go_wp2_with fail
    refine HJ.out.mono ?_
    rintro e w1 ⟨rfl, hb1⟩
    go_wp2_with fail
    refine (HC.out w1 hb1).mono ?_
    rintro e w2 ⟨rfl, rfl⟩
    go_wp2_with fail
    go_ret2
    exact ⟨by rw [HF.out.1, HF.out.2]; first | done | rfl, hb1⟩
  | false =>
    cases r with
    | false =>
      have HF := Lib.hid (And.intro (show joinS l = ⟨#[]⟩ by rw [h1]; rfl) (show joinB l = false by rw [h2]; rfl))
      clear h1 h2
      go_enter Tryd.func28, Tryd.ntmps28
      go_wp2_with fail
      refine HJ.out.mono ?_
      rintro e w1 ⟨rfl, hb1⟩
      go_wp2_with fail
      refine (HC.out w1 hb1).mono ?_
      rintro e w2 ⟨rfl, rfl⟩
      go_wp2_with fail
      refine (HR.out w1).mono ?_
      rintro e w2 ⟨rfl, hb2⟩
      go_wp2_with fail
      go_ret2
      exact ⟨by rw [HF.out.1, HF.out.2]; first | done | rfl, hb1.trans (hb2.mono hb1.size)⟩
    | true =>
      have HF := Lib.hid (And.intro (show joinS l = P by rw [h1]; rfl) (show joinB l = true by rw [h2]; rfl))
      clear h1 h2
      go_enter Tryd.func28, Tryd.ntmps28
      go_wp2_with fail
      refine HJ.out.mono ?_
      rintro e w1 ⟨rfl, hb1⟩
      go_wp2_with fail
      refine (HC.out w1 hb1).mono ?_
      rintro e w2 ⟨rfl, rfl⟩
      go_wp2_with fail
      refine (HR.out w1).mono ?_
      rintro e w2 ⟨rfl, hb2⟩
      go_wp2_with fail
      go_ret2
      exact ⟨by rw [HF.out.1, HF.out.2]; first | done | rfl, hb1.trans (hb2.mono hb1.size)⟩
end Go.Proofs.YtjglkbbhihlcgaaDoor
