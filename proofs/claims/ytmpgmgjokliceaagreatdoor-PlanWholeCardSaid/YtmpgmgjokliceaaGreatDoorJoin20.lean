/- Several texts, joined for the limit of sixty files; each one opens with its own comment. -/
import Derived.Test.YtmpgmgjokliceaaGreatDoorRows
import Derived.Test.YtmpgmgjokliceaaGreatDoorJoin1
import Derived.Test.YtmpgmgjokliceaaGreatDoorJoin19
import Derived.Deep.WholeRow
import Derived.Laws.BitsAllLaws
import Derived.Test.YtmpgmgjokliceaaGreatDoorJoin8
import Derived.Test.YtmpgmgjokliceaaGreatDoorJoin2
import Derived.Test.YtmpgmgjokliceaaGreatDoorJoin5
/- The contract of sum.Made: the table of the states behind all bytes. -/
set_option linter.unusedVariables false
namespace Go.Proofs.YtmpgmgjokliceaaGreatDoor
open Go.RowKit
open Sw
/-- a row of cells is the table -/
def IsTab (cs : Array Value) : Prop := cs.size = 256 ∧ ∀ i, i < 256 → cs[i]? = some (.int .u32 (stpN 8 i : Nat))
theorem info_tab : ∃ v : Array Value, (Tryz.prog.info? 246).map (fun i => (i.zero, i.size)) = some (some (.agg v), 256) ∧ v.size = 256 := ⟨Array.replicate 256 (.int .u32 0), by kernel_rfl, by kernel_rfl⟩
theorem stp_walk_odd (x : Nat) (hx : x < 4294967296) (h : x % 2 = 1) : bits .xor .u32 ((x : Int) / 2) 3988292384 = (stp x : Nat) := by
  have e : ((x : Int) / 2) = ((x / 2 : Nat) : Int) := by omega
  rw [e]
  have := u32_xor_nat (x / 2) 3988292384 (by omega) (by omega)
  rw [stp, if_pos h, poly]
  exact this
theorem stp_walk_even (x : Nat) (h : ¬ x % 2 = 1) : (x : Int) / 2 = (stp x : Nat) := by
  rw [stp, if_neg h]; omega
theorem and_walk (x : Nat) (hx : x < 4294967296) : bits .and .u32 (x : Int) 1 = ((x % 2 : Nat) : Int) := by
  have := u32_and_nat x 1 hx (by omega)
  rw [Nat.and_one_is_mod] at this
  exact this
set_option maxRecDepth 100000 in
set_option maxHeartbeats 1000000 in
theorem made_any (w : World) : Calls Tryz.prog 210 #[] w fun e w' => ∃ cs, e = .returned (.agg cs) ∧ IsTab cs ∧ Below w.heap.size w w' := by
  obtain ⟨v, hv, hvs⟩ := info_tab
  obtain ⟨hz, hzi⟩ := zero_of_info hv
  have HV := Lib.hid hvs; clear hvs
  have HZI := Lib.hid hzi; clear hzi hv
  go_enter Tryz.func210, Tryz.ntmps210
  go_wp2
  clear hz
  go_loopw [1, 2, 3] (fun _ _ t wr => ∃ k : Nat, k ≤ 256 ∧ t = .int .i64 k ∧ (∃ cs : Array Value, Blk wr w.heap.size 246 cs ∧ cs.size = 256 ∧ ∀ i, i < k → cs[i]? = some (.int .u32 (stpN 8 i : Nat))) ∧ Below w.heap.size w wr) (fun _ _ t _ => 256 - (intOf t).toNat)
  case atStart => exact ⟨0, Nat.zero_le _, rfl, ⟨_, Blk.new _ _ _, HV.out, fun i hi => by omega⟩, (Below.refl _ _).alloc (Nat.le_refl _) _⟩
  case round =>
    obtain ⟨k, hk, rfl, ⟨cs, hcs, hsz, hat⟩, hb⟩ := hrel
    by_cases hlt : k < 256
    · have hf := Blk.frozen hcs k
      have hc : wr.cell? ⟨w.heap.size, k, none⟩ = some (cs[k]'(by omega)) := by rw [Blk.cell hcs k]; exact Array.getElem?_eq_getElem (by omega)
      generalize cs[k]'(by omega) = old at hc
      have HAT := Lib.hid hat; clear hat
      have HSZ := Lib.hid hsz; clear hsz
      go_wp2
      go_loop [2, 8] (fun x t => ∃ j : Nat, j ≤ 8 ∧ t = .int .i64 j ∧ x = .int .u32 (stpN j k : Nat)) (fun _ t => 8 - (intOf t).toNat)
      case atStart => exact ⟨0, Nat.zero_le _, rfl, rfl⟩
      case round =>
        obtain ⟨j, hj, rfl, rfl⟩ := hrel
        by_cases hjl : j < 8
        · have hx := stpN_lt j k (by omega)
          have ha := and_walk (stpN j k) hx
          by_cases ho : stpN j k % 2 = 1
          · have hst := stp_walk_odd (stpN j k) hx ho
            rw [ho] at ha
            have HST := Lib.hid hst; clear hst ho hx
            go_wp2
            exact ⟨⟨j + 1, by omega, by go_num, by rw [HST.out, stpN]⟩, by simp [intOf]; omega⟩
          · have hst := stp_walk_even (stpN j k) ho
            have ho' : stpN j k % 2 = 0 := by omega
            rw [ho'] at ha
            have HST := Lib.hid hst; clear hst ho hx ho'
            go_wp2
            exact ⟨⟨j + 1, by omega, by go_num, by rw [HST.out, stpN]⟩, by simp [intOf]; omega⟩
        · obtain rfl : j = 8 := by omega
          go_wp2
          go_roundw
          case rel =>
            refine ⟨k + 1, by omega, by go_num, ⟨_, Blk.put hcs k _, by simpa using HSZ.out, fun i hi => ?_⟩, hb.setCell (Nat.le_refl _) _⟩
            rw [Array.getElem?_setIfInBounds]
            by_cases hik : k = i
            · subst hik
              rw [if_pos rfl, if_pos (by have := HSZ.out; omega)]
            · rw [if_neg hik]
              exact HAT.out i (by omega)
          case measure => simp [intOf]; omega
    · obtain rfl : k = 256 := by omega
      have hi : (Tryz.prog.info? 246).map (·.size) = some cs.size := by rw [hsz]; exact HZI.out
      have HI := Lib.hid hi; clear hi
      have HAT := Lib.hid hat; clear hat
      have HSZ := Lib.hid hsz; clear hsz
      have hone : cs.all (·.oneCell') = true := by
        rw [Array.all_eq_true]
        intro i hi
        have h := HAT.out i (by have := HSZ.out; omega)
        rw [Array.getElem?_eq_getElem hi] at h
        injection h with h
        rw [h]; rfl
      have HO := Lib.hid hone; clear hone
      go_wp2_with (first | (refine wpList_load_row rfl 246 _ rfl w.heap.size rfl 246 cs (0, 0) _ hcs Tryz.underlying246 rfl HI.out ?_) | (refine wpList_store_row rfl 246 _ _ rfl w.heap.size cs rfl rfl 246 cs hcs HI.out rfl HO.out ?_))
      refine bodyPost_ret (results_cell_row rfl _ _ w.heap.size 246 cs (0, 0) _ rfl (setRow_heap wr w.heap.size cs cs _ _ hcs) Tryz.underlying246 rfl HI.out) rfl ⟨cs, rfl, ⟨HSZ.out, HAT.out⟩, hb.trans ?_⟩
      exact ⟨rfl, rfl, rfl, by simp, fun i hi => setRow_other wr w.heap.size i cs (by omega)⟩
end Go.Proofs.YtmpgmgjokliceaaGreatDoor
/- Contracts of sum.Table.Step, Begin, End. -/
set_option linter.unusedVariables false
namespace Go.Proofs.YtmpgmgjokliceaaGreatDoor
open Go.RowKit
open Sw
theorem step_index (s b : Nat) (hb : b < 256) : bits .xor .u8 ((s : Int) % 256) (b : Int) = (((s ^^^ b) % 256 : Nat) : Int) := by
  have h := u8_xor_nat (s % 256) b (by omega) hb
  have e : ((s : Int) % 256) = ((s % 256 : Nat) : Int) := by omega
  rw [e, h]
  have hx := Nat.xor_mod_two_pow (a := s) (b := b) (n := 8)
  have hb2 : b % 256 = b := by omega
  have h8 : (2 : Nat) ^ 8 = 256 := rfl
  rw [h8, hb2] at hx
  rw [hx]
theorem step_value (s b : Nat) (hs : s < 4294967296) (hb : b < 256) : bits .xor .u32 ((stpN 8 ((s ^^^ b) % 256) : Nat) : Int) ((s : Int) / 256) = ((byteS s b : Nat) : Int) := by
  have e : ((s : Int) / 256) = ((s / 256 : Nat) : Int) := by omega
  have hl := stpN_lt 8 ((s ^^^ b) % 256) (by have := Nat.mod_lt (s ^^^ b) (show 0 < 256 by omega); omega)
  rw [e, u32_xor_nat _ _ hl (by omega), table_step s b hb]
set_option maxHeartbeats 400000 in
theorem sumStep_any (w : World) (g : Nat) (cs : Array Value) (s b : Nat) (hs : s < 4294967296) (hb : b < 256) (h : Blk w g 246 cs) (ht : IsTab cs) :
    Calls Tryz.prog 236 #[.pointer (some ⟨g, 0, none⟩), .int .u32 s, .int .u8 b] w fun e w' => e = .returned (.int .u32 (byteS s b : Nat)) ∧ w = w' := by
  have hc : w.cell? ⟨g, (s ^^^ b) % 256, none⟩ = some (.int .u32 (stpN 8 ((s ^^^ b) % 256) : Nat)) := by
    rw [Blk.cell h]
    exact ht.2 _ (Nat.mod_lt _ (by omega))
  have e1 := step_index s b hb
  have e2 := step_value s b hs hb
  have hlt : (s ^^^ b) % 256 < 256 := Nat.mod_lt _ (by omega)
  generalize (s ^^^ b) % 256 = x at hc e1 e2 hlt
  generalize stpN 8 x = y at hc e2
  generalize byteS s b = z at e2 ⊢
  have E2 := Lib.hid e2; clear e2
  go_enter Tryz.func236, Tryz.ntmps236
  go_wp2
  go_ret
  rw [← E2.out]
  exact ⟨rfl, rfl⟩
theorem step_nil (w : World) (s b : Int) :
    Calls Tryz.prog 236 #[.pointer none, .int .u32 s, .int .u8 b] w fun e w' => e = .returned (.int .u32 s) ∧ w = w' := by
  go_enter Tryz.func236, Tryz.ntmps236
  go_wp2
  go_ret
  exact ⟨rfl, rfl⟩
theorem begin_any (w : World) : Calls Tryz.prog 213 #[] w fun e w' => e = .returned (.int .u32 4294967295) ∧ w = w' := by
  go_enter Tryz.func213, Tryz.ntmps213
  go_wp2
  go_ret
  exact ⟨rfl, rfl⟩
theorem end_value (s : Nat) (hs : s < 4294967296) : bits .xor .u32 IntKind.u32.max (s : Int) = ((4294967295 - s : Nat) : Int) := by
  have e : IntKind.u32.max = ((4294967295 : Nat) : Int) := by decide
  rw [e, u32_xor_nat 4294967295 s (by omega) hs, not_xor s hs, Nat.xor_comm]
theorem end_any (w : World) (s : Nat) (hs : s < 4294967296) : Calls Tryz.prog 211 #[.int .u32 s] w fun e w' => e = .returned (.int .u32 (4294967295 - s : Nat)) ∧ w = w' := by
  have hsg : IntKind.u32.signed = false := rfl
  have E := Lib.hid (end_value s hs)
  go_enter Tryz.func211, Tryz.ntmps211
  go_wp2
  go_ret
  rw [← E.out]
  exact ⟨rfl, rfl⟩
theorem bit_odd (s : Nat) (hs : s < 4294967296) : bits .xor .u32 ((s : Int) / 2) 3988292384 = (((s / 2) ^^^ poly : Nat) : Int) := by
  have e : ((s : Int) / 2) = ((s / 2 : Nat) : Int) := by omega
  rw [e]
  exact u32_xor_nat (s / 2) 3988292384 (by omega) (by omega)
set_option maxHeartbeats 400000 in
theorem refBit_any (w : World) (s bit : Nat) (hs : s < 4294967296) (hb : bit < 2) :
    Calls Tryz.prog 230 #[.int .u32 s, .int .u32 bit] w fun e w' => e = .returned (.int .u32 (refBit s bit : Nat)) ∧ w = w' := by
  by_cases ho : (s + bit) % 2 = 1
  · have hr : refBit s bit = (s / 2) ^^^ poly := by rw [refBit, if_pos ho]
    have ht : (((s : Int) + bit) % 2 == 1) = true := by simp; omega
    have HR := Lib.hid hr; clear hr ho
    have EB := Lib.hid (bit_odd s hs)
    go_enter Tryz.func230, Tryz.ntmps230
    go_wp2
    go_ret
    rw [HR.out, ← EB.out]
    exact ⟨rfl, rfl⟩
  · have hr : ((refBit s bit : Nat) : Int) = (s : Int) / 2 := by rw [refBit, if_neg ho]; omega
    have ht : (((s : Int) + bit) % 2 == 1) = false := by simp; omega
    have HR := Lib.hid hr; clear hr ho
    go_enter Tryz.func230, Tryz.ntmps230
    go_wp2
    go_ret
    rw [HR.out]
    exact ⟨rfl, rfl⟩
theorem refBit_lt (s bit : Nat) (hs : s < 4294967296) : refBit s bit < 4294967296 := by
  have h := refN_lt 1 s bit hs
  have h2 : refN 1 s bit = refBit s (bit % 2) := by simp [refN]
  unfold refBit
  split
  · exact Nat.xor_lt_two_pow (n := 32) (by omega) poly_lt
  · omega
set_option maxHeartbeats 400000 in
theorem refByte_any (w : World) (s b : Nat) (hs : s < 4294967296) (hb : b < 256) :
    Calls Tryz.prog 201 #[.int .u32 s, .int .u8 b] w fun e w' => e = .returned (.int .u32 (byteS s b : Nat)) ∧ w = w' := by
  go_enter Tryz.func201, Tryz.ntmps201
  go_wp2_with fail
  go_loop [0, 5, 6] (fun x n t => ∃ i : Nat, i ≤ 8 ∧ t = .int .i64 i ∧ n = .int .u32 (b / 2 ^ i : Nat) ∧ x = .int .u32 (refN i s b : Nat)) (fun _ _ t => 8 - (intOf t).toNat)
  case atStart => exact ⟨0, Nat.zero_le _, rfl, by simp, rfl⟩
  case round =>
    obtain ⟨i, hi, rfl, rfl, rfl⟩ := hrel
    by_cases hlt : i < 8
    · have hx := refN_lt i s b hs
      have hn : b / 2 ^ i ≤ b := Nat.div_le_self _ _
      have hn1 : b / 2 ^ (i + 1) = b / 2 ^ i / 2 := by rw [Nat.pow_succ, Nat.div_div_eq_div_mul]
      have hr1 : refN (i + 1) s b = refBit (refN i s b) (b / 2 ^ i % 2) := rfl
      have HN := Lib.hid hn1; clear hn1
      have HR := Lib.hid hr1; clear hr1
      generalize b / 2 ^ i = n at *
      generalize refN i s b = x at *
      have e2 : ((n : Int).tmod 2) = ((n % 2 : Nat) : Int) := by rw [Int.tmod_eq_emod_of_nonneg (by omega)]; omega
      have e3 : ((n : Int) % 2) = ((n % 2 : Nat) : Int) := by omega
      have e4 : ((n : Int) / 2) = ((n / 2 : Nat) : Int) := by omega
      have E2 := Lib.hid e2; clear e2
      have E3 := Lib.hid e3; clear e3
      have E4 := Lib.hid e4; clear e4
      go_wp2_with fail
      rw [E3.out]
      refine (refBit_any _ x (n % 2) hx (by omega)).mono ?_
      rintro e w' ⟨rfl, rfl⟩
      go_wp2_with fail
      exact ⟨⟨i + 1, by omega, by go_num, by rw [HN.out, E4.out], by rw [HR.out]⟩, by simp [intOf]; omega⟩
    · obtain rfl : i = 8 := by omega
      have hr := refN_8 s b hb
      have HR := Lib.hid hr; clear hr
      go_wp2_with fail
      go_ret
      rw [← HR.out]
      exact ⟨rfl, rfl⟩
theorem feedS_take (s : Nat) (t : ByteArray) (k : Nat) (h : k < t.size) : feedS s (t.data.toList.take (k + 1)) = byteS (feedS s (t.data.toList.take k)) t[k].toNat := by
  rw [List.take_succ_eq_append_getElem (by simpa using h), feedS_append, feedS_cons]
  show byteS _ t.data[k].toNat = byteS _ t.data[k].toNat
  rfl
set_option maxHeartbeats 400000 in
theorem refFeed_any (w : World) (s : Nat) (t : ByteArray) (hs : s < 4294967296) (ht : t.size ≤ maxLen) :
    Calls Tryz.prog 158 #[.int .u32 s, .string t] w fun e w' => e = .returned (.int .u32 (feedS s t.data.toList : Nat)) ∧ w = w' := by
  unfold maxLen at ht
  go_enter Tryz.func158, Tryz.ntmps158
  go_wp2_with fail
  go_loop [0, 5] (fun x i => ∃ k : Nat, k ≤ t.size ∧ i = .int .i64 k ∧ x = .int .u32 (feedS s (t.data.toList.take k) : Nat)) (fun _ i => t.size - (intOf i).toNat)
  case atStart => exact ⟨0, Nat.zero_le _, rfl, rfl⟩
  case round =>
    obtain ⟨k, hk, rfl, rfl⟩ := hrel
    by_cases hlt : k < t.size
    · have hx := feedS_lt (t.data.toList.take k) s hs
      have HX := Lib.hid (feedS_take s t k hlt)
      have hbt := t[k].toNat_lt
      generalize feedS s (t.data.toList.take k) = x at *
      go_wp2_with (go_at_call 201; refine (refByte_any _ x t[k].toNat hx (by omega)).mono ?_; rintro e w' ⟨rfl, rfl⟩)
      exact ⟨⟨k + 1, by omega, by go_num, by rw [HX.out]⟩, by simp [intOf]; omega⟩
    · obtain rfl : k = t.size := by omega
      have hr : t.data.toList.take t.size = t.data.toList := List.take_of_length_le (by simp)
      have HR := Lib.hid hr; clear hr
      go_wp2_with fail
      go_ret
      rw [HR.out]
      exact ⟨rfl, rfl⟩
theorem ofS_lt (l : List UInt8) : ofS l < 4294967296 := by unfold ofS; omega
theorem refOf_any (w : World) (t : ByteArray) (ht : t.size ≤ maxLen) :
    Calls Tryz.prog 99 #[.string t] w fun e w' => e = .returned (.int .u32 (ofS t.data.toList : Nat)) ∧ w = w' := by
  have hx := feedS_lt t.data.toList 4294967295 (by omega)
  have ho : ((ofS t.data.toList : Nat) : Int) = 4294967295 - (feedS 4294967295 t.data.toList : Nat) := by unfold ofS; omega
  have HO := Lib.hid ho; clear ho
  go_enter Tryz.func99, Tryz.ntmps99
  go_wp2_with (go_at_call 158; refine (refFeed_any _ 4294967295 t (by omega) ht).mono ?_; rintro e w' ⟨rfl, rfl⟩)
  go_ret
  rw [HO.out]
  exact ⟨rfl, rfl⟩
end Go.Proofs.YtmpgmgjokliceaaGreatDoor
/- Contracts of sum.Table.Feed and sum.Of; the document's example. -/
set_option linter.unusedVariables false
namespace Go.Proofs.YtmpgmgjokliceaaGreatDoor
open Go.RowKit
open Sw
def feedL : Nat → List ByteArray → Nat
  | s, [] => s
  | s, t :: l => feedL (feedS s t.data.toList) l
theorem feedL_lt (l : List ByteArray) : ∀ (s : Nat), s < 2 ^ 32 → feedL s l < 2 ^ 32 := by
  induction l with
  | nil => intro s h; rw [feedL]; exact h
  | cons t l ih => intro s h; rw [feedL]; exact ih _ (feedS_lt _ s h)
theorem feedL_take (s : Nat) (l : List ByteArray) (k : Nat) (h : k < l.length) : feedL s (l.take (k + 1)) = feedS (feedL s (l.take k)) l[k].data.toList := by
  induction l generalizing s k with
  | nil => simp at h
  | cons t l ih =>
    cases k with
    | zero => simp [feedL]
    | succ k =>
      rw [List.take_succ_cons, List.take_succ_cons, feedL, feedL]
      exact ih _ k (by simpa using h)
def strE (t : ByteArray) : List Value := [.string t]
set_option maxRecDepth 100000 in
set_option maxHeartbeats 1000000 in
theorem feed_any (w : World) (g : Nat) (cs : Array Value) (s : Nat) (A : Option Addr) (n c : Nat) (l : List ByteArray) (hs : s < 4294967296) (h : Blk w g 246 cs) (ht : IsTab cs) (hl : l.length = n) (hnm : n ≤ maxLen) (hsl : SlOf w 1 strE A l) (hm : ∀ t ∈ l, t.size ≤ maxLen) :
    Calls Tryz.prog 212 #[.pointer (some ⟨g, 0, none⟩), .int .u32 s, .slice A n c] w fun e w' => e = .returned (.int .u32 (feedL s l : Nat)) ∧ w = w' := by
  unfold maxLen at hnm
  have HS := Lib.hid hsl; clear hsl
  have HM := Lib.hid hm; clear hm
  have HT := Lib.hid ht; clear ht
  have HL := Lib.hid hl; clear hl
  go_enter Tryz.func212, Tryz.ntmps212
  go_wp2_with fail
  go_loop [1, 8, 9, 12] (fun x _ _ i => ∃ k : Nat, k ≤ n ∧ i = .int .i64 k ∧ x = .int .u32 (feedL s (l.take k) : Nat)) (fun _ _ _ i => n - (intOf i).toNat)
  case atStart => exact ⟨0, Nat.zero_le _, rfl, rfl⟩
  case round =>
    obtain ⟨k, hk, rfl, rfl⟩ := hrel
    by_cases hlt : k < n
    · have hkl : k < l.length := by have := HL.out; omega
      obtain ⟨b, off, rfl, hb, hc⟩ := HS.out (by omega)
      have hc0 := hc k hkl 0 (by omega)
      simp [strE] at hc0
      clear hc
      have ht := HM.out l[k] (List.getElem_mem _)
      have HX := Lib.hid (feedL_take s l k hkl)
      have hx := feedL_lt (l.take k) s hs
      generalize feedL s (l.take k) = x at *
      generalize l[k] = t at *
      unfold maxLen at ht
      go_wp2_with fail
      go_loop [1, 9, 18] (fun y _ i => ∃ j : Nat, j ≤ t.size ∧ i = .int .i64 j ∧ y = .int .u32 (feedS x (t.data.toList.take j) : Nat)) (fun _ _ i => t.size - (intOf i).toNat)
      case atStart => exact ⟨0, Nat.zero_le _, rfl, rfl⟩
      case round =>
        obtain ⟨j, hj, rfl, rfl⟩ := hrel
        by_cases hjt : j < t.size
        · have hy := feedS_lt (t.data.toList.take j) x hx
          have HY := Lib.hid (feedS_take x t j hjt)
          have hbt := t[j].toNat_lt
          generalize feedS x (t.data.toList.take j) = y at *
          go_wp2_with (go_at_call 236; refine (sumStep_any _ g cs y t[j].toNat hy (by omega) h HT.out).mono ?_; rintro e w' ⟨rfl, rfl⟩)
          exact ⟨⟨j + 1, by omega, by go_num, by rw [HY.out]⟩, by simp [intOf]; omega⟩
        · obtain rfl : j = t.size := by omega
          have hr : t.data.toList.take t.size = t.data.toList := List.take_of_length_le (by simp)
          have HR := Lib.hid hr; clear hr
          go_wp2_with fail
          exact ⟨⟨k + 1, by omega, by go_num, by rw [HX.out, HR.out]⟩, by simp [intOf]; omega⟩
    · obtain rfl : k = n := by omega
      have hr : l.take k = l := List.take_of_length_le (by rw [HL.out]; exact Nat.le_refl _)
      have HR := Lib.hid hr; clear hr
      go_wp2_with fail
      go_ret
      rw [HR.out]
      exact ⟨rfl, rfl⟩
set_option maxRecDepth 100000 in
set_option maxHeartbeats 1000000 in
theorem feed_nil (w : World) (s : Nat) (A : Option Addr) (n c : Nat) (l : List ByteArray) (hl : l.length = n) (hnm : n ≤ maxLen) (hsl : SlOf w 1 strE A l) (hm : ∀ t ∈ l, t.size ≤ maxLen) :
    Calls Tryz.prog 212 #[.pointer none, .int .u32 s, .slice A n c] w fun e w' => e = .returned (.int .u32 s) ∧ w = w' := by
  unfold maxLen at hnm
  have HS := Lib.hid hsl; clear hsl
  have HM := Lib.hid hm; clear hm
  have HL := Lib.hid hl; clear hl
  go_enter Tryz.func212, Tryz.ntmps212
  go_wp2_with fail
  go_loop [1, 8, 9, 12] (fun x _ _ i => ∃ k : Nat, k ≤ n ∧ i = .int .i64 k ∧ x = .int .u32 s) (fun _ _ _ i => n - (intOf i).toNat)
  case atStart => exact ⟨0, Nat.zero_le _, rfl, rfl⟩
  case round =>
    obtain ⟨k, hk, rfl, rfl⟩ := hrel
    by_cases hlt : k < n
    · have hkl : k < l.length := by have := HL.out; omega
      obtain ⟨b, off, rfl, hb, hc⟩ := HS.out (by omega)
      have hc0 := hc k hkl 0 (by omega)
      simp [strE] at hc0
      clear hc
      have ht := HM.out l[k] (List.getElem_mem _)
      generalize l[k] = t at *
      unfold maxLen at ht
      go_wp2_with fail
      go_loop [1, 9, 18] (fun y _ i => ∃ j : Nat, j ≤ t.size ∧ i = .int .i64 j ∧ y = .int .u32 s) (fun _ _ i => t.size - (intOf i).toNat)
      case atStart => exact ⟨0, Nat.zero_le _, rfl, rfl⟩
      case round =>
        obtain ⟨j, hj, rfl, rfl⟩ := hrel
        by_cases hjt : j < t.size
        · go_wp2_with (go_at_call 236; refine (step_nil _ s _).mono ?_; rintro e w' ⟨rfl, rfl⟩)
          exact ⟨⟨j + 1, by omega, by go_num, rfl⟩, by simp [intOf]; omega⟩
        · obtain rfl : j = t.size := by omega
          go_wp2_with fail
          exact ⟨⟨k + 1, by omega, by go_num, rfl⟩, by simp [intOf]; omega⟩
    · obtain rfl : k = n := by omega
      go_wp2_with fail
      go_ret
      exact ⟨rfl, rfl⟩
theorem IsTab.one {cs : Array Value} (h : IsTab cs) : cs.all (·.oneCell') = true := by
  rw [Array.all_eq_true]
  intro i hi
  have h1 := h.2 i (by have := h.1; omega)
  rw [Array.getElem?_eq_getElem hi] at h1
  injection h1 with h1
  rw [h1]; rfl
set_option maxRecDepth 100000 in
set_option maxHeartbeats 1000000 in
theorem sumOf_any (w : World) (t : ByteArray) (ht : t.size ≤ maxLen) :
    Calls Tryz.prog 173 #[.string t] w fun e w' => e = .returned (.int .u32 (ofS t.data.toList : Nat)) ∧ Below w.heap.size w w' := by
  obtain ⟨v, hv, hvs⟩ := info_tab
  obtain ⟨hz, hzi⟩ := zero_of_info hv
  have HV := Lib.hid hvs; clear hvs
  have HZI := Lib.hid hzi; clear hzi hv
  have HT := Lib.hid ht; clear ht
  have hx := feedS_lt t.data.toList 4294967295 (by omega)
  go_enter Tryz.func173, Tryz.ntmps173
  go_wp2_with (first | (go_at_call 210; refine (made_any _).mono ?_; rintro e w1 ⟨cs, rfl, htab, hb1⟩; have HTAB := Lib.hid htab; clear htab) | (refine wpList_store_row rfl 246 _ _ rfl w1.heap.size cs rfl rfl 246 v (Blk.new _ _ _) (by rw [HTAB.out.1]; exact HZI.out) (by rw [HV.out, HTAB.out.1]) HTAB.out.one ?_; rw [World.setRow_alloc_new]) | (go_at_call 213; refine (begin_any _).mono ?_; rintro e w' ⟨rfl, rfl⟩))
  have hB := Blk.new (w1.alloc (Obj.cells cs 246)) 9 #[Value.string t]
  have hA := Blk.alloc (Blk.new w1 246 cs) (Obj.cells #[Value.string t] 9)
  rw [show (w1.alloc (Obj.cells cs 246)).heap.size = w1.heap.size + 1 by simp] at hB
  refine (feed_any _ w1.heap.size cs 4294967295 (some ⟨w1.heap.size + 1, 0, none⟩) 1 1 [t] (by omega) hA HTAB.out rfl (by unfold maxLen; omega) (SlOf.of_blk1 (e := Value.string) hB rfl) (by simpa using HT.out)).mono ?_
  rintro e w' ⟨rfl, rfl⟩
  have he : feedL 4294967295 [t] = feedS 4294967295 t.data.toList := by simp [feedL]
  rw [he]
  clear he
  go_wp2_with (go_at_call 211; refine (end_any _ _ hx).mono ?_; rintro e w' ⟨rfl, rfl⟩)
  go_ret
  exact ⟨rfl, (hb1.alloc hb1.size _).alloc (by simpa using Nat.le_succ_of_le hb1.size) _⟩
end Go.Proofs.YtmpgmgjokliceaaGreatDoor
/- Contracts of node.Print and of the reference's Print. -/
set_option linter.unusedVariables false
set_option linter.unusedSimpArgs false
namespace Sw
open Go
def printN (n : Nd) : Pr := ⟨n.kind, n.mode, n.time, n.data.size, if n.kind = 1 then (ofS n.data.data.toList : Nat) else 0⟩
end Sw
namespace Go.Proofs.YtmpgmgjokliceaaGreatDoor
open Go.RowKit
open Sw
theorem sumRef_any (w : World) (t : ByteArray) (ht : t.size ≤ maxLen) :
    Calls Tryz.prog 99 #[.string t] w fun e w' => e = .returned (.int .u32 (ofS t.data.toList : Nat)) ∧ Below w.heap.size w w' :=
  (refOf_any w t ht).mono fun e w' ⟨he, hw⟩ => ⟨he, hw ▸ Below.refl _ _⟩
set_option maxRecDepth 100000 in
set_option maxHeartbeats 4000000 in
theorem print_any (w : World) (n : Nd) (hm : n.data.size ≤ maxLen) :
    Calls Tryz.prog 120 #[.agg n.c] w fun e w' => e = .returned (.agg (printN n).c) ∧ Below w.heap.size w w' := by
  have HS := Lib.hid (fun W => sumOf_any W n.data hm)
  obtain ⟨kind, mode, time, data⟩ := n
  unfold printN Pr.c Nd.c
  simp only at HS hm ⊢
  unfold maxLen at hm
  by_cases hk : kind = 1
  · rw [if_pos hk]
    subst hk
    generalize ofS data.data.toList = sm at *
    go_enter Tryz.func120, Tryz.ntmps120
    go_wp2_with fail
    refine (HS.out _).mono ?_
    rintro e w1 ⟨rfl, hb1⟩
    have hP := (blk_trd w (.cells #[.int .i64 1, .int .i64 mode, .int .u32 time, .string data] 37) (.cells #[.int .i64 0, .int .i64 0, .int .u32 0, .int .i64 0, .int .u32 0] 89) #[.int .i64 1, .int .i64 mode, .int .u32 time, .int .i64 data.size, .int .u32 0] 89).below hb1 (by simp)
    have hR := (blk_mid w (.cells #[.int .i64 1, .int .i64 mode, .int .u32 time, .string data] 37) #[.int .i64 0, .int .i64 0, .int .u32 0, .int .i64 0, .int .u32 0] 89 (.cells #[.int .i64 1, .int .i64 mode, .int .u32 time, .int .i64 data.size, .int .u32 0] 89)).below hb1 (by simp)
    have hbw : Below w.heap.size w w1 := ((((Below.refl _ _).alloc (Nat.le_refl _) _).alloc (by simp) _).alloc (by simp; omega) _).trans (hb1.mono (by simp; omega))
    have p0 := hP.cell 0
    have p1 := hP.cell 1
    have p2 := hP.cell 2
    have p3 := hP.cell 3
    have p4 := hP.cell 4
    have pf := hP.frozen 4
    have r0 := hR.cell 0
    have r1 := hR.cell 1
    have r2 := hR.cell 2
    have r3 := hR.cell 3
    have r4 := hR.cell 4
    have f0 := hR.frozen 0
    have f1 := hR.frozen 1
    have f2 := hR.frozen 2
    have f3 := hR.frozen 3
    have f4 := hR.frozen 4
    simp at p0 p1 p2 p3 p4 r0 r1 r2 r3 r4
    have HP := Lib.hid hP; clear hP
    have HR := Lib.hid hR; clear hR
    go_wp2_with fail
    refine bodyPost_ret (results_cell_row rfl _ _ (w.heap.size + 1) 89 #[.int .i64 1, .int .i64 mode, .int .u32 time, .int .i64 data.size, .int .u32 sm] (0, 0) _ rfl ((((((HR.out.far (p := ⟨w.heap.size + 1 + 1, 4, none⟩) (by simp) _).put 0 (.int .i64 1)).put 1 (.int .i64 mode)).put 2 (.int .u32 time)).put 3 (.int .i64 data.size)).put 4 (.int .u32 sm)) Tryz.underlying89 rfl (by kernel_rfl)) rfl ⟨rfl, ?_⟩
    exact (((((hbw.setCell (by simp; omega) _).setCell (by simp) _).setCell (by simp) _).setCell (by simp) _).setCell (by simp) _).setCell (by simp) _
  · rw [if_neg hk]
    have hkb : (kind == 1) = false := by rw [beq_eq_false_iff_ne]; exact hk
    go_enter Tryz.func120, Tryz.ntmps120
    go_wp2_with fail
    exact bodyPost_ret (results_cell_row rfl _ _ (w.heap.size + 1) 89 #[.int .i64 kind, .int .i64 mode, .int .u32 time, .int .i64 data.size, .int .u32 0] (0, 0) _ rfl (blk_mid w _ _ _ _) Tryz.underlying89 rfl (by kernel_rfl)) rfl ⟨rfl, (((Below.refl _ _).alloc (Nat.le_refl _) _).alloc (by simp) _).alloc (by simp; omega) _⟩
set_option maxRecDepth 100000 in
set_option maxHeartbeats 4000000 in
theorem refPrint_any (w : World) (n : Nd) (hm : n.data.size ≤ maxLen) :
    Calls Tryz.prog 47 #[.agg n.c] w fun e w' => e = .returned (.agg (printN n).c) ∧ Below w.heap.size w w' := by
  have HS := Lib.hid (fun W => sumRef_any W n.data hm)
  obtain ⟨kind, mode, time, data⟩ := n
  unfold printN Pr.c Nd.c
  simp only at HS hm ⊢
  unfold maxLen at hm
  by_cases hk : kind = 1
  · rw [if_pos hk]
    subst hk
    generalize ofS data.data.toList = sm at *
    go_enter Tryz.func47, Tryz.ntmps47
    go_wp2_with fail
    refine (HS.out _).mono ?_
    rintro e w1 ⟨rfl, hb1⟩
    have hP := (blk_trd w (.cells #[.int .i64 1, .int .i64 mode, .int .u32 time, .string data] 37) (.cells #[.int .i64 0, .int .i64 0, .int .u32 0, .int .i64 0, .int .u32 0] 89) #[.int .i64 1, .int .i64 mode, .int .u32 time, .int .i64 data.size, .int .u32 0] 89).below hb1 (by simp)
    have hR := (blk_mid w (.cells #[.int .i64 1, .int .i64 mode, .int .u32 time, .string data] 37) #[.int .i64 0, .int .i64 0, .int .u32 0, .int .i64 0, .int .u32 0] 89 (.cells #[.int .i64 1, .int .i64 mode, .int .u32 time, .int .i64 data.size, .int .u32 0] 89)).below hb1 (by simp)
    have hbw : Below w.heap.size w w1 := ((((Below.refl _ _).alloc (Nat.le_refl _) _).alloc (by simp) _).alloc (by simp; omega) _).trans (hb1.mono (by simp; omega))
    have p0 := hP.cell 0
    have p1 := hP.cell 1
    have p2 := hP.cell 2
    have p3 := hP.cell 3
    have p4 := hP.cell 4
    have pf := hP.frozen 4
    have r0 := hR.cell 0
    have r1 := hR.cell 1
    have r2 := hR.cell 2
    have r3 := hR.cell 3
    have r4 := hR.cell 4
    have f0 := hR.frozen 0
    have f1 := hR.frozen 1
    have f2 := hR.frozen 2
    have f3 := hR.frozen 3
    have f4 := hR.frozen 4
    simp at p0 p1 p2 p3 p4 r0 r1 r2 r3 r4
    have HP := Lib.hid hP; clear hP
    have HR := Lib.hid hR; clear hR
    go_wp2_with fail
    refine bodyPost_ret (results_cell_row rfl _ _ (w.heap.size + 1) 89 #[.int .i64 1, .int .i64 mode, .int .u32 time, .int .i64 data.size, .int .u32 sm] (0, 0) _ rfl ((((((HR.out.far (p := ⟨w.heap.size + 1 + 1, 4, none⟩) (by simp) _).put 0 (.int .i64 1)).put 1 (.int .i64 mode)).put 2 (.int .u32 time)).put 3 (.int .i64 data.size)).put 4 (.int .u32 sm)) Tryz.underlying89 rfl (by kernel_rfl)) rfl ⟨rfl, ?_⟩
    exact (((((hbw.setCell (by simp; omega) _).setCell (by simp) _).setCell (by simp) _).setCell (by simp) _).setCell (by simp) _).setCell (by simp) _
  · rw [if_neg hk]
    have hkb : (kind == 1) = false := by rw [beq_eq_false_iff_ne]; exact hk
    go_enter Tryz.func47, Tryz.ntmps47
    go_wp2_with fail
    exact bodyPost_ret (results_cell_row rfl _ _ (w.heap.size + 1) 89 #[.int .i64 kind, .int .i64 mode, .int .u32 time, .int .i64 data.size, .int .u32 0] (0, 0) _ rfl (blk_mid w _ _ _ _) Tryz.underlying89 rfl (by kernel_rfl)) rfl ⟨rfl, (((Below.refl _ _).alloc (Nat.le_refl _) _).alloc (by simp) _).alloc (by simp; omega) _⟩
end Go.Proofs.YtmpgmgjokliceaaGreatDoor
/- Contracts of detect.State and of the reference's State. -/
set_option linter.unusedVariables false
set_option linter.unusedSimpArgs false
namespace Sw
open Go
theorem Pr.ext_c (p q : Pr) : p = q ↔ p.kind = q.kind ∧ p.mode = q.mode ∧ p.time = q.time ∧ p.size = q.size ∧ p.sum = q.sum := by
  obtain ⟨a, b, c, d, e⟩ := p
  obtain ⟨a', b', c', d', e'⟩ := q
  simp
instance : DecidableEq Pr := fun p q => decidable_of_iff' _ (Pr.ext_c p q)
/-- what became of a node since a print -/
def stateN (was : Pr) (had : Bool) (n : Nd) : Int :=
  if had = false then (if n.kind = 0 then 0 else 1) else if was = printN n then 0 else if n.kind = 0 then 3 else 2
end Sw
namespace Go.Proofs.YtmpgmgjokliceaaGreatDoor
open Go.RowKit
open Sw
/-- the two boxes -/
def Boxes (w : World) (was : Pr) (n : Nd) (W : World) : Prop := Blk W w.heap.size 89 was.c ∧ Blk W (w.heap.size + 1) 37 n.c ∧ Below w.heap.size w W
theorem Boxes.keep {w : World} {was : Pr} {n : Nd} (W W' : World) (h : Boxes w was n W) (hb : Below W.heap.size W W') : Boxes w was n W' := ⟨h.1.below hb h.1.lt, h.2.1.below hb h.2.1.lt, h.2.2.trans (hb.mono h.2.2.size)⟩
end Go.Proofs.YtmpgmgjokliceaaGreatDoor
