/- The contract of pick.Any. -/
import Derived.Test.YtjglkbbhihlcgaaDoorPickMatch
set_option linter.unusedVariables false
set_option linter.unusedSimpArgs false
namespace Go.Proofs.YtjglkbbhihlcgaaDoor
open Go Go.RowKit
open Sw
set_option maxRecDepth 100000 in
set_option maxHeartbeats 1000000 in
theorem any1_any (w : World) (g : Nat) (x s : ByteArray) (hx : x.size ≤ 100000) (hs : s.size ≤ 100000) (hc : w.cell? ⟨g, 0, none⟩ = some (.string s)) :
    Calls Tryd.prog 50 #[.string x, .pointer (some ⟨g, 0, none⟩)] w fun e w' => e = .returned (.bool (mtS x s)) ∧ Below w.heap.size w w' := by
  have HM := Lib.hid (pickMatch_any w x s hx hs)
  generalize mtS x s = R at *
  clear hx hs
  go_enter Tryd.func50, Tryd.ntmps50
  go_wp2_with fail
  refine HM.out.mono ?_
  rintro e w1 ⟨rfl, hb1⟩
  go_wp2_with fail
  go_ret
  exact ⟨rfl, hb1⟩
set_option maxRecDepth 100000 in
set_option maxHeartbeats 2000000 in
theorem idxAny_any (w : World) (g : Nat) (s : ByteArray) (A : Option Addr) (n c : Nat) (l : List ByteArray) (hl : l.length = n) (hn : n ≤ maxLen) (hsl : SlOf w 1 bE A l) (hz : ∀ x ∈ l, x.size ≤ 100000) (hs : s.size ≤ 100000) (hg : g < w.heap.size) (hcg : w.cell? ⟨g, 0, none⟩ = some (.string s)) :
    Calls Tryd.prog 64 #[.slice A n c, .func (.func 50) #[] #[.pointer (some ⟨g, 0, none⟩)]] w fun e w' => ∃ r : Int, e = .returned (.int .i64 r) ∧ decide (0 ≤ r) = l.any (fun x => mtS x s) ∧ Below w.heap.size w w' := by
  unfold maxLen at hn
  have HS := Lib.hid hsl; clear hsl
  have HL := Lib.hid hl; clear hl
  have HZ := Lib.hid hz; clear hz
  have HJ := Lib.hid (fun W x (hb : Below w.heap.size w W) (hx : x ∈ l) => any1_any W g x s (HZ.out x hx) hs (by rw [hb.cell hg]; exact hcg))
  clear hcg hs
  go_enter Tryd.func64, Tryd.ntmps64
  go_wp2_with fail
  go_loopw [4, 5, 8] (fun r _ iv wr => ∃ i : Nat, i ≤ n ∧ r = .int .i64 0 ∧ iv = .int .i64 i ∧ (∀ j (h : j < l.length), j < i → mtS l[j] s = false) ∧ Below w.heap.size w wr) (fun _ _ iv _ => n - (intOf iv).toNat)
  case atStart => exact ⟨0, Nat.zero_le _, rfl, rfl, fun j h h' => by omega, Below.refl _ _⟩
  case round =>
    obtain ⟨i, hi, rfl, rfl, hall, hbr⟩ := hrel
    by_cases hlt : i < n
    · have hiL : i < l.length := by have := HL.out; omega
      obtain ⟨b, off, rfl, hbb, hcs⟩ := (HS.out.below hbr (Nat.le_refl _)) (by omega)
      have hci := hcs i hiL 0 (by omega)
      simp [bE] at hci
      have hji := HJ.out wr l[i] hbr (List.getElem_mem hiL)
      have hany := fun (h : mtS l[i] s = true) => show l.any (fun x => mtS x s) = true from List.any_eq_true.2 ⟨l[i], List.getElem_mem hiL, h⟩
      have HST := Lib.hid (fun (hp : mtS l[i] s = false) j (h : j < l.length) (hj : j < i + 1) => show mtS l[j] s = false by
        by_cases hjj : j = i
        · subst hjj; exact hp
        · exact hall j h (by omega))
      have hi1 : (i : Int) < n := by omega
      clear hcs hall
      generalize mtS l[i] s = P at *
      generalize l[i] = X at *
      have HJI := Lib.hid hji; clear hji
      have HA := Lib.hid hany; clear hany
      cases P with
      | true =>
        have HF := Lib.hid (HA.out rfl)
        go_wp2_with fail
        refine HJI.out.mono ?_
        rintro e w' ⟨rfl, hb6⟩
        go_wp2_with fail
        go_ret
        exact ⟨_, rfl, by rw [HF.out]; exact decide_eq_true (by omega), hbr.trans (hb6.mono hbr.size)⟩
      | false =>
        have HF := Lib.hid (HST.out rfl)
        go_wp2_with fail
        refine HJI.out.mono ?_
        rintro e w' ⟨rfl, hb6⟩
        have hb7 := hbr.trans (hb6.mono hbr.size)
        go_wp2_with fail
        go_roundw
        case rel => exact ⟨i + 1, by omega, rfl, by go_num, HF.out, hb7⟩
        case measure => simp [intOf]; omega
    · obtain rfl : i = n := by omega
      have HF := Lib.hid (show l.any (fun x => mtS x s) = false by
        rw [List.any_eq_false]
        intro x hx
        obtain ⟨j, hj, rfl⟩ := List.getElem_of_mem hx
        rw [hall j hj (by have := HL.out; omega)]
        simp)
      clear hall hlt
      go_wp2_with fail
      go_ret
      exact ⟨_, rfl, by rw [HF.out]; exact decide_eq_false (by omega), hbr⟩
set_option maxRecDepth 100000 in
theorem pickAny_any (w : World) (s : ByteArray) (A : Option Addr) (n c : Nat) (l : List ByteArray) (hl : l.length = n) (hn : n ≤ maxLen) (hsl : SlOf w 1 bE A l) (hz : ∀ x ∈ l, x.size ≤ 100000) (hs : s.size ≤ 100000) :
    Calls Tryd.prog 23 #[.string s, .slice A n c] w fun e w' => e = .returned (.bool (l.any (fun x => mtS x s))) ∧ Below w.heap.size w w' := by
  have hB := Blk.new w 9 #[Value.string s]
  have hb1 := (Below.refl w.heap.size w).alloc (Nat.le_refl _) (.cells #[Value.string s] 9)
  have hcg : (w.alloc (.cells #[Value.string s] 9)).cell? ⟨w.heap.size, 0, none⟩ = some (.string s) := by rw [hB.cell 0]; rfl
  have hgl := hB.lt
  have HC := Lib.hid (show Calls Tryd.prog 49 #[.slice A n c, .func (.func 50) #[] #[.pointer (some ⟨w.heap.size, 0, none⟩)]] (w.alloc (.cells #[Value.string s] 9)) fun e w' => e = .returned (.bool (l.any (fun x => mtS x s))) ∧ Below w.heap.size w w' from by
    have HI := Lib.hid (idxAny_any (w.alloc (.cells #[Value.string s] 9)) w.heap.size s A n c l hl hn (hsl.below hb1 (Nat.le_refl _)) hz hs hgl hcg)
    generalize w.alloc (.cells #[Value.string s] 9) = w1 at *
    generalize w.heap.size = g at *
    have HB1 := Lib.hid hb1
    clear hcg hB
    go_enter Tryd.func49, Tryd.ntmps49
    go_wp2_with fail
    refine HI.out.mono ?_
    rintro e w' ⟨r, rfl, hr, hb2⟩
    have HR := Lib.hid hr; clear hr
    go_wp2_with fail
    go_ret
    exact ⟨by rw [← HR.out]; first | done | rfl, HB1.out.trans (hb2.mono (by omega))⟩)
  clear hB hb1 hcg hgl hsl hz hs hl hn
  generalize l.any (fun x => mtS x s) = R at *
  go_enter Tryd.func23, Tryd.ntmps23
  go_wp2_with fail
  refine HC.out.mono ?_
  rintro e w2 ⟨rfl, hb2⟩
  go_wp2_with fail
  go_ret
  exact ⟨rfl, hb2⟩
end Go.Proofs.YtjglkbbhihlcgaaDoor
