/- The contract of the reference's Any of layer 42. -/
import Derived.Test.YtjglkbbhihlcgaaDoorRefMatch
set_option linter.unusedVariables false
set_option linter.unusedSimpArgs false
namespace Go.Proofs.YtjglkbbhihlcgaaDoor
open Go Go.RowKit
open Sw
set_option maxRecDepth 100000 in
set_option maxHeartbeats 2000000 in
theorem refAny_any (w : World) (s : ByteArray) (A : Option Addr) (n c : Nat) (l : List ByteArray) (hl : l.length = n) (hn : n ≤ maxLen) (hsl : SlOf w 1 bE A l) (hz : ∀ x ∈ l, x.size ≤ 100000) (hs : s.size ≤ 100000) :
    Calls Tryd.prog 24 #[.string s, .slice A n c] w fun e w' => e = .returned (.bool (l.any (fun x => mtS x s))) ∧ Below w.heap.size w w' := by
  unfold maxLen at hn
  have HS := Lib.hid hsl; clear hsl
  have HL := Lib.hid hl; clear hl
  have HJ := Lib.hid (fun W x (hx : x ∈ l) => refMatch_any W x s (hz x hx) hs)
  clear hz hs
  obtain ⟨R, hR⟩ : ∃ R, l.any (fun x => mtS x s) = R := ⟨_, rfl⟩
  rw [hR]
  have HR := Lib.hid hR; clear hR
  go_enter Tryd.func24, Tryd.ntmps24
  go_wp2_with fail
  go_loopw [4, 6, 9] (fun r _ iv wr => ∃ i : Nat, i ≤ n ∧ r = .bool false ∧ iv = .int .i64 i ∧ (∀ j (h : j < l.length), j < i → mtS l[j] s = false) ∧ Below w.heap.size w wr) (fun _ _ iv _ => n - (intOf iv).toNat)
  case atStart => exact ⟨0, Nat.zero_le _, rfl, rfl, fun j h h' => by omega, Below.refl _ _⟩
  case round =>
    obtain ⟨i, hi, rfl, rfl, hall, hbr⟩ := hrel
    by_cases hlt : i < n
    · have hiL : i < l.length := by have := HL.out; omega
      obtain ⟨b, off, rfl, hbb, hcs⟩ := (HS.out.below hbr (Nat.le_refl _)) (by omega)
      have hci := hcs i hiL 0 (by omega)
      simp [bE] at hci
      have hji := HJ.out wr l[i] (List.getElem_mem hiL)
      have hany := fun (h : mtS l[i] s = true) => show R = true by rw [← HR.out]; exact List.any_eq_true.2 ⟨l[i], List.getElem_mem hiL, h⟩
      have HST := Lib.hid (fun (hp : mtS l[i] s = false) j (h : j < l.length) (hj : j < i + 1) => show mtS l[j] s = false by
        by_cases hjj : j = i
        · subst hjj; exact hp
        · exact hall j h (by omega))
      have hi1 : (i : Int) < n := by omega
      clear hcs hall
      generalize mtS l[i] s = P at *
      generalize l[i] = X at *
      have HJI := Lib.hid hji; clear hji
      have HA := Lib.hid hany; clear hany
      cases P with
      | true =>
        have HF := Lib.hid (HA.out rfl)
        go_wp2_with fail
        refine HJI.out.mono ?_
        rintro e w' ⟨rfl, hb6⟩
        go_wp2_with fail
        go_ret
        exact ⟨by rw [HF.out]; first | done | rfl, hbr.trans (hb6.mono hbr.size)⟩
      | false =>
        have HF := Lib.hid (HST.out rfl)
        go_wp2_with fail
        refine HJI.out.mono ?_
        rintro e w' ⟨rfl, hb6⟩
        have hb7 := hbr.trans (hb6.mono hbr.size)
        go_wp2_with fail
        go_roundw
        case rel => exact ⟨i + 1, by omega, rfl, by go_num, HF.out, hb7⟩
        case measure => simp [intOf]; omega
    · obtain rfl : i = n := by omega
      have HF := Lib.hid (show R = false by
        rw [← HR.out, List.any_eq_false]
        intro x hx
        obtain ⟨j, hj, rfl⟩ := List.getElem_of_mem hx
        rw [hall j hj (by have := HL.out; omega)]
        simp)
      clear hall hlt
      go_wp2_with fail
      go_ret
      exact ⟨by rw [HF.out]; first | done | rfl, hbr⟩
end Go.Proofs.YtjglkbbhihlcgaaDoor
