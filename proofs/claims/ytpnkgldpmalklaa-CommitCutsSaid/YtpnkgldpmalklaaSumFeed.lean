/- Contracts of sum.Table.Feed and sum.Of; the document's example. -/
import Derived.Test.YtpnkgldpmalklaaSumStep
import Derived.Test.YtpnkgldpmalklaaOpen
set_option linter.unusedVariables false
namespace Go.Proofs.Ytpnkgldpmalklaa
open Go.RowKit
open Sw
def feedL : Nat → List ByteArray → Nat
  | s, [] => s
  | s, t :: l => feedL (feedS s t.data.toList) l
theorem feedL_lt (l : List ByteArray) : ∀ (s : Nat), s < 2 ^ 32 → feedL s l < 2 ^ 32 := by
  induction l with
  | nil => intro s h; rw [feedL]; exact h
  | cons t l ih => intro s h; rw [feedL]; exact ih _ (feedS_lt _ s h)
theorem feedL_take (s : Nat) (l : List ByteArray) (k : Nat) (h : k < l.length) : feedL s (l.take (k + 1)) = feedS (feedL s (l.take k)) l[k].data.toList := by
  induction l generalizing s k with
  | nil => simp at h
  | cons t l ih =>
    cases k with
    | zero => simp [feedL]
    | succ k =>
      rw [List.take_succ_cons, List.take_succ_cons, feedL, feedL]
      exact ih _ k (by simpa using h)
def strE (t : ByteArray) : List Value := [.string t]
set_option maxRecDepth 100000 in
set_option maxHeartbeats 1000000 in
theorem feed_any (w : World) (g : Nat) (cs : Array Value) (s : Nat) (A : Option Addr) (n c : Nat) (l : List ByteArray) (hs : s < 4294967296) (h : Blk w g 149 cs) (ht : IsTab cs) (hl : l.length = n) (hnm : n ≤ maxLen) (hsl : SlOf w 1 strE A l) (hm : ∀ t ∈ l, t.size ≤ maxLen) :
    Calls Try.prog 90 #[.pointer (some ⟨g, 0, none⟩), .int .u32 s, .slice A n c] w fun e w' => e = .returned (.int .u32 (feedL s l : Nat)) ∧ w = w' := by
  unfold maxLen at hnm
  have HS := Lib.hid hsl; clear hsl
  have HM := Lib.hid hm; clear hm
  have HT := Lib.hid ht; clear ht
  have HL := Lib.hid hl; clear hl
  go_enter Try.func90, Try.ntmps90
  go_wp2_with fail
  go_loop [1, 8, 9, 12] (fun x _ _ i => ∃ k : Nat, k ≤ n ∧ i = .int .i64 k ∧ x = .int .u32 (feedL s (l.take k) : Nat)) (fun _ _ _ i => n - (intOf i).toNat)
  case atStart => exact ⟨0, Nat.zero_le _, rfl, rfl⟩
  case round =>
    obtain ⟨k, hk, rfl, rfl⟩ := hrel
    by_cases hlt : k < n
    · have hkl : k < l.length := by have := HL.out; omega
      obtain ⟨b, off, rfl, hb, hc⟩ := HS.out (by omega)
      have hc0 := hc k hkl 0 (by omega)
      simp [strE] at hc0
      clear hc
      have ht := HM.out l[k] (List.getElem_mem _)
      have HX := Lib.hid (feedL_take s l k hkl)
      have hx := feedL_lt (l.take k) s hs
      generalize feedL s (l.take k) = x at *
      generalize l[k] = t at *
      unfold maxLen at ht
      go_wp2_with fail
      go_loop [1, 9, 18] (fun y _ i => ∃ j : Nat, j ≤ t.size ∧ i = .int .i64 j ∧ y = .int .u32 (feedS x (t.data.toList.take j) : Nat)) (fun _ _ i => t.size - (intOf i).toNat)
      case atStart => exact ⟨0, Nat.zero_le _, rfl, rfl⟩
      case round =>
        obtain ⟨j, hj, rfl, rfl⟩ := hrel
        by_cases hjt : j < t.size
        · have hy := feedS_lt (t.data.toList.take j) x hx
          have HY := Lib.hid (feedS_take x t j hjt)
          have hbt := t[j].toNat_lt
          generalize feedS x (t.data.toList.take j) = y at *
          go_wp2_with (go_at_call 103; refine (step_any _ g cs y t[j].toNat hy (by omega) h HT.out).mono ?_; rintro e w' ⟨rfl, rfl⟩)
          exact ⟨⟨j + 1, by omega, by go_num, by rw [HY.out]⟩, by simp [intOf]; omega⟩
        · obtain rfl : j = t.size := by omega
          have hr : t.data.toList.take t.size = t.data.toList := List.take_of_length_le (by simp)
          have HR := Lib.hid hr; clear hr
          go_wp2_with fail
          exact ⟨⟨k + 1, by omega, by go_num, by rw [HX.out, HR.out]⟩, by simp [intOf]; omega⟩
    · obtain rfl : k = n := by omega
      have hr : l.take k = l := List.take_of_length_le (by rw [HL.out]; exact Nat.le_refl _)
      have HR := Lib.hid hr; clear hr
      go_wp2_with fail
      go_ret
      rw [HR.out]
      exact ⟨rfl, rfl⟩
set_option maxRecDepth 100000 in
set_option maxHeartbeats 1000000 in
theorem feed_nil (w : World) (s : Nat) (A : Option Addr) (n c : Nat) (l : List ByteArray) (hl : l.length = n) (hnm : n ≤ maxLen) (hsl : SlOf w 1 strE A l) (hm : ∀ t ∈ l, t.size ≤ maxLen) :
    Calls Try.prog 90 #[.pointer none, .int .u32 s, .slice A n c] w fun e w' => e = .returned (.int .u32 s) ∧ w = w' := by
  unfold maxLen at hnm
  have HS := Lib.hid hsl; clear hsl
  have HM := Lib.hid hm; clear hm
  have HL := Lib.hid hl; clear hl
  go_enter Try.func90, Try.ntmps90
  go_wp2_with fail
  go_loop [1, 8, 9, 12] (fun x _ _ i => ∃ k : Nat, k ≤ n ∧ i = .int .i64 k ∧ x = .int .u32 s) (fun _ _ _ i => n - (intOf i).toNat)
  case atStart => exact ⟨0, Nat.zero_le _, rfl, rfl⟩
  case round =>
    obtain ⟨k, hk, rfl, rfl⟩ := hrel
    by_cases hlt : k < n
    · have hkl : k < l.length := by have := HL.out; omega
      obtain ⟨b, off, rfl, hb, hc⟩ := HS.out (by omega)
      have hc0 := hc k hkl 0 (by omega)
      simp [strE] at hc0
      clear hc
      have ht := HM.out l[k] (List.getElem_mem _)
      generalize l[k] = t at *
      unfold maxLen at ht
      go_wp2_with fail
      go_loop [1, 9, 18] (fun y _ i => ∃ j : Nat, j ≤ t.size ∧ i = .int .i64 j ∧ y = .int .u32 s) (fun _ _ i => t.size - (intOf i).toNat)
      case atStart => exact ⟨0, Nat.zero_le _, rfl, rfl⟩
      case round =>
        obtain ⟨j, hj, rfl, rfl⟩ := hrel
        by_cases hjt : j < t.size
        · go_wp2_with (go_at_call 103; refine (step_nil _ s _).mono ?_; rintro e w' ⟨rfl, rfl⟩)
          exact ⟨⟨j + 1, by omega, by go_num, rfl⟩, by simp [intOf]; omega⟩
        · obtain rfl : j = t.size := by omega
          go_wp2_with fail
          exact ⟨⟨k + 1, by omega, by go_num, rfl⟩, by simp [intOf]; omega⟩
    · obtain rfl : k = n := by omega
      go_wp2_with fail
      go_ret
      exact ⟨rfl, rfl⟩
theorem IsTab.one {cs : Array Value} (h : IsTab cs) : cs.all (·.oneCell') = true := by
  rw [Array.all_eq_true]
  intro i hi
  have h1 := h.2 i (by have := h.1; omega)
  rw [Array.getElem?_eq_getElem hi] at h1
  injection h1 with h1
  rw [h1]; rfl
set_option maxRecDepth 100000 in
set_option maxHeartbeats 1000000 in
theorem sumOf_any (w : World) (t : ByteArray) (ht : t.size ≤ maxLen) :
    Calls Try.prog 72 #[.string t] w fun e w' => e = .returned (.int .u32 (ofS t.data.toList : Nat)) ∧ Below w.heap.size w w' := by
  obtain ⟨v, hv, hvs⟩ := info_tab
  obtain ⟨hz, hzi⟩ := zero_of_info hv
  have HV := Lib.hid hvs; clear hvs
  have HZI := Lib.hid hzi; clear hzi hv
  have HT := Lib.hid ht; clear ht
  have hx := feedS_lt t.data.toList 4294967295 (by omega)
  go_enter Try.func72, Try.ntmps72
  go_wp2_with (first | (go_at_call 88; refine (made_any _).mono ?_; rintro e w1 ⟨cs, rfl, htab, hb1⟩; have HTAB := Lib.hid htab; clear htab) | (refine wpList_store_row rfl 149 _ _ rfl w1.heap.size cs rfl rfl 149 v (Blk.new _ _ _) (by rw [HTAB.out.1]; exact HZI.out) (by rw [HV.out, HTAB.out.1]) HTAB.out.one ?_; rw [World.setRow_alloc_new]) | (go_at_call 91; refine (begin_any _).mono ?_; rintro e w' ⟨rfl, rfl⟩))
  have hB := Blk.new (w1.alloc (Obj.cells cs 149)) 9 #[Value.string t]
  have hA := Blk.alloc (Blk.new w1 149 cs) (Obj.cells #[Value.string t] 9)
  rw [show (w1.alloc (Obj.cells cs 149)).heap.size = w1.heap.size + 1 by simp] at hB
  refine (feed_any _ w1.heap.size cs 4294967295 (some ⟨w1.heap.size + 1, 0, none⟩) 1 1 [t] (by omega) hA HTAB.out rfl (by unfold maxLen; omega) (SlOf.of_blk1 (e := Value.string) hB rfl) (by simpa using HT.out)).mono ?_
  rintro e w' ⟨rfl, rfl⟩
  have he : feedL 4294967295 [t] = feedS 4294967295 t.data.toList := by simp [feedL]
  rw [he]
  clear he
  go_wp2_with (go_at_call 89; refine (end_any _ _ hx).mono ?_; rintro e w' ⟨rfl, rfl⟩)
  go_ret
  exact ⟨rfl, (hb1.alloc hb1.size _).alloc (by simpa using Nat.le_succ_of_le hb1.size) _⟩
end Go.Proofs.Ytpnkgldpmalklaa
