/- Contracts of the reference's Join and Parts. -/
import Derived.Test.YtjglkbbhihlcgaaDoorNameRefC
set_option linter.unusedVariables false
set_option linter.unusedSimpArgs false
namespace Sw
open Go Go.RowKit
/-- the texts' bytes -/
def datL (l : List ByteArray) : List (List UInt8) := l.map dat
theorem jn_zero (l : List ByteArray) (h : 0 < l.length) : (⟨#[]⟩ : ByteArray) ++ l[0] = mkB (jnL (datL (l.take 1))) := by
  cases l with
  | nil => exact absurd h (by simp)
  | cons x l =>
    have e : jnL (datL ((x :: l).take 1)) = x.data.toList := rfl
    rw [e, mkB_data]
    apply ByteArray.ext
    simp
theorem jn_step (l : List ByteArray) (i : Nat) (h0 : 0 < i) (h : i < l.length) : (mkB (jnL (datL (l.take i))) ++ (⟨#[47]⟩ : ByteArray)) ++ l[i] = mkB (jnL (datL (l.take (i + 1)))) := by
  have e : jnL (datL (l.take (i + 1))) = jnL (datL (l.take i)) ++ 47 :: l[i].data.toList := by
    unfold datL
    rw [List.take_succ_eq_append_getElem h, List.map_append, List.map_singleton, jnL_snoc _ _ (by
      intro e
      have := congrArg List.length e
      rw [List.length_map, List.length_take, List.length_nil] at this
      omega)]
    rfl
  rw [e]
  apply ByteArray.ext
  simp [mkB, ByteArray.data_append]
theorem own_base {w : World} {base base' : Nat} {e : TypeId} {size n : Nat} {v : Value} {xs : List Value} (h : w.ownsRow base e size v n xs) (hb : base' ≤ base) : w.ownsRow base' e size v n xs := by
  refine ⟨h.1, ?_⟩
  rcases h.2 with h2 | ⟨g, cap, cur, rfl, h3, h4⟩
  · exact .inl h2
  · exact .inr ⟨g, cap, cur, rfl, Nat.le_trans hb h3, h4⟩
end Sw
namespace Go.Proofs.YtjglkbbhihlcgaaDoor
open Go Go.RowKit
open Sw
set_option maxRecDepth 100000 in
set_option maxHeartbeats 4000000 in
theorem refJoin_any (w : World) (A : Option Addr) (n c : Nat) (l : List ByteArray) (hl : l.length = n) (hn : n ≤ maxLen) (hsl : SlOf w 1 bE A l) (htot : (jnL (datL l)).length ≤ 1000000) :
    Calls Tryd.prog 27 #[.slice A n c] w fun e w' => e = .returned (.string (mkB (jnL (datL l)))) ∧ w = w' := by
  unfold maxLen at hn
  have hall : ∀ i, (mkB (jnL (datL (l.take i)))).size ≤ 1000000 := fun i => by
    rw [mkB_size]
    have := jnL_take_le (datL l) i
    unfold datL at this htot ⊢
    rw [← List.map_take] at this
    omega
  have HALL := Lib.hid hall; clear hall
  have HS := Lib.hid hsl; clear hsl
  have HL := Lib.hid hl; clear hl
  go_enter Tryd.func27, Tryd.ntmps27
  go_wp2_with fail
  go_loopw [3, 4, 5, 8] (fun p _ _ iv wr => ∃ i : Nat, i ≤ n ∧ iv = .int .i64 i ∧ p = .string (mkB (jnL (datL (l.take i)))) ∧ w = wr) (fun _ _ _ iv _ => n - (intOf iv).toNat)
  case atStart => exact ⟨0, Nat.zero_le _, rfl, rfl, rfl⟩
  case round =>
    obtain ⟨i, hi, rfl, rfl, rfl⟩ := hrel
    by_cases hlt : i < n
    · have hiL : i < l.length := by have := HL.out; omega
      obtain ⟨b, off, rfl, hbb, hcs⟩ := HS.out (by omega)
      have hci := hcs i hiL 0 (by omega)
      simp [bE] at hci
      have hs1 := HALL.out (i + 1)
      have hs0 := HALL.out i
      have hi1 : (i : Int) < n := by omega
      clear hcs
      by_cases h0 : i = 0
      · subst h0
        rw [Nat.add_zero] at hci
        have hz := jn_zero l hiL
        have hsz : ((⟨#[]⟩ : ByteArray) ++ l[0]).size ≤ 1000000 := by rw [hz]; exact hs1
        rw [ByteArray.size_append] at hsz
        have e0 : mkB (jnL (datL (l.take 0))) = ⟨#[]⟩ := rfl
        have HZ := Lib.hid hz; clear hz
        rw [e0]
        clear e0 hs1 hs0
        generalize l[0] = X at *
        go_wp2_with fail
        go_roundw
        case rel => exact ⟨1, by omega, rfl, by rw [← HZ.out]; first | done | rfl, by simp⟩
        case measure => simp [intOf]; omega
      · have hz := jn_step l i (by omega) hiL
        have hsz : ((mkB (jnL (datL (l.take i))) ++ (⟨#[47]⟩ : ByteArray)) ++ l[i]).size ≤ 1000000 := by rw [hz]; exact hs1
        rw [ByteArray.size_append, ByteArray.size_append, show (⟨#[47]⟩ : ByteArray).size = 1 from rfl] at hsz
        have HZ := Lib.hid hz; clear hz
        have hp0 : (0 : Int) < i := by omega
        have hsz2 : (mkB (jnL (datL (l.take i))) ++ (⟨#[47]⟩ : ByteArray)).size = (mkB (jnL (datL (l.take i)))).size + 1 := by rw [ByteArray.size_append]; rfl
        clear hs1
        generalize l[i] = X at *
        generalize mkB (jnL (datL (l.take i))) = P at *
        go_wp2_with fail
        go_roundw
        case rel => exact ⟨i + 1, by omega, by go_num, by rw [HZ.out], by simp⟩
        case measure => simp [intOf]; omega
    · obtain rfl : i = n := by omega
      have ht : l.take i = l := List.take_of_length_le (by have := HL.out; omega)
      rw [ht]
      clear ht hlt
      go_wp2_with fail
      go_ret
      exact ⟨rfl, rfl⟩
/-- a path's parts, as texts -/
def partsS (s : ByteArray) : List ByteArray := if rightL s.data.toList = true then spS s else []
set_option maxRecDepth 100000 in
set_option maxHeartbeats 4000000 in
theorem refParts_any (w : World) (s : ByteArray) (hs : s.size ≤ 100000) :
    Calls Tryd.prog 25 #[.string s] w (StrPost (partsS s) w) := by
  have HR := Lib.hid (refRight_any w s hs)
  have HS := Lib.hid (fun W => refSplit_any W s hs)
  have hp : partsS s = if rightL s.data.toList = true then spS s else [] := rfl
  have HF := Lib.hid (fun v l w1 w' (hb1 : Below w.heap.size w w1) (hl : l = partsS s) (h : w'.ownsRow w1.heap.size 9 1 v l.length (l.flatMap bE)) (hb : Below w1.heap.size w1 w') => (show StrPost (partsS s) w (.returned v) w' from ⟨v, rfl, by rw [← hl]; exact own_base h hb1.size, hb1.trans (hb.mono hb1.size)⟩))
  generalize rightL s.data.toList = U at *
  cases U with
  | false =>
    have HP := Lib.hid (show partsS s = [] by rw [hp, if_neg (by simp)])
    clear hp
    go_enter Tryd.func25, Tryd.ntmps25
    go_wp2_with fail
    refine HR.out.mono ?_
    rintro e w1 ⟨rfl, hb1⟩
    have HFIN := Lib.hid (HF.out (.slice none 0 0) [] w1 w1 hb1 HP.out.symm ⟨rfl, .inl ⟨rfl, rfl⟩⟩ (Below.refl _ _))
    go_wp2_with fail
    go_ret
    exact HFIN.out
  | true =>
    have HP := Lib.hid (show partsS s = spS s by rw [hp, if_pos rfl])
    clear hp
    go_enter Tryd.func25, Tryd.ntmps25
    go_wp2_with fail
    refine HR.out.mono ?_
    rintro e w1 ⟨rfl, hb1⟩
    go_wp2_with fail
    refine (HS.out w1).mono ?_
    rintro e w2 ⟨v, rfl, h1, h2⟩
    have HFIN := Lib.hid (HF.out v (spS s) w1 w2 hb1 HP.out.symm h1 h2)
    clear h1 h2
    go_wp2_with fail
    go_ret
    exact HFIN.out
end Go.Proofs.YtjglkbbhihlcgaaDoor
