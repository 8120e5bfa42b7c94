/- Several texts, joined for the limit of sixty files; each one opens with its own comment. -/
import Derived.Test.YtjcbjocgachpjaaGreatDoorRows
import Derived.Test.YtjcbjocgachpjaaGreatDoorJoin1
import Derived.Deep.WholeRow
import Derived.Laws.BitsAllLaws
import Derived.Test.YtjcbjocgachpjaaGreatDoorJoin8
import Derived.Test.YtjcbjocgachpjaaGreatDoorJoin5
import Derived.Test.YtjcbjocgachpjaaGreatDoorJoin10
/- Plain laws of layer 2: the sum's steps on numbers. No program in sight. -/
set_option linter.unusedVariables false
namespace Sw
def poly : Nat := 3988292384
/-- one bit's step -/
def stp (x : Nat) : Nat := if x % 2 = 1 then (x / 2) ^^^ poly else x / 2
def stpN : Nat → Nat → Nat
  | 0, x => x
  | k + 1, x => stp (stpN k x)
/-- the state behind a byte -/
@[irreducible] def byteS (s b : Nat) : Nat := stpN 8 (s ^^^ b)
theorem byteS_def (s b : Nat) : byteS s b = stpN 8 (s ^^^ b) := by unfold byteS; rfl
/-- the state behind a text -/
def feedS : Nat → List UInt8 → Nat
  | s, [] => s
  | s, b :: l => feedS (byteS s b.toNat) l
/-- the sum of a text -/
def ofS (l : List UInt8) : Nat := 4294967295 - feedS 4294967295 l
theorem poly_lt : poly < 2 ^ 32 := by decide
theorem stp_lt (x : Nat) (h : x < 2 ^ 32) : stp x < 2 ^ 32 := by
  unfold stp
  split
  · exact Nat.xor_lt_two_pow (by omega) poly_lt
  · omega
theorem stpN_lt (k x : Nat) (h : x < 2 ^ 32) : stpN k x < 2 ^ 32 := by
  induction k with
  | zero => exact h
  | succ k ih => exact stp_lt _ ih
theorem byteS_lt (s b : Nat) (hs : s < 2 ^ 32) (hb : b < 2 ^ 32) : byteS s b < 2 ^ 32 := by rw [byteS_def]; exact stpN_lt _ _ (Nat.xor_lt_two_pow hs hb)
theorem feedS_lt (l : List UInt8) : ∀ (s : Nat), s < 2 ^ 32 → feedS s l < 2 ^ 32 := by
  induction l with
  | nil => intro s h; exact h
  | cons b l ih =>
    intro s h
    have h1 := byteS_lt s b.toNat h (Nat.lt_trans b.toNat_lt (by decide))
    have h2 := ih _ h1
    rw [feedS]
    exact h2
theorem feedS_append (s : Nat) (l m : List UInt8) : feedS s (l ++ m) = feedS (feedS s l) m := by
  induction l generalizing s with
  | nil => rfl
  | cons b l ih => rw [List.cons_append, feedS, ih, feedS]
theorem feedS_cons (s : Nat) (b : UInt8) (m : List UInt8) : feedS s (b :: m) = feedS (byteS s b.toNat) m := by rw [feedS]
theorem xor_mod2 (a b : Nat) : (a ^^^ b) % 2 = (a % 2) ^^^ (b % 2) := by
  have h := Nat.xor_mod_two_pow (a := a) (b := b) (n := 1)
  rw [Nat.pow_one] at h
  exact h
theorem xor_div2 (a b : Nat) : (a ^^^ b) / 2 = (a / 2) ^^^ (b / 2) := by
  have := Nat.shiftRight_xor_distrib (i := 1) (a := a) (b := b)
  simpa [Nat.shiftRight_eq_div_pow] using this
theorem stp_xor (a b : Nat) : stp (a ^^^ b) = stp a ^^^ stp b := by
  unfold stp
  rw [xor_mod2, xor_div2]
  have ha : a % 2 = 0 ∨ a % 2 = 1 := by omega
  have hb : b % 2 = 0 ∨ b % 2 = 1 := by omega
  rcases ha with ha | ha <;> rcases hb with hb | hb <;> rw [ha, hb] <;> simp
  · rw [Nat.xor_assoc]
  · rw [Nat.xor_assoc, Nat.xor_assoc, Nat.xor_comm poly (b / 2)]
  · rw [Nat.xor_assoc, ← Nat.xor_assoc poly, Nat.xor_comm poly (b / 2), Nat.xor_assoc, Nat.xor_self, Nat.xor_zero]
theorem stpN_xor (k a b : Nat) : stpN k (a ^^^ b) = stpN k a ^^^ stpN k b := by
  induction k with
  | zero => rfl
  | succ k ih => rw [stpN, stpN, stpN, ih, stp_xor]
/-- a number that is a multiple of 2^k is only shifted -/
theorem stpN_shift (k h : Nat) : stpN k (2 ^ k * h) = h := by
  induction k generalizing h with
  | zero => simp [stpN]
  | succ k ih =>
    have e : 2 ^ (k + 1) * h = 2 ^ k * (2 * h) := by rw [Nat.pow_succ, Nat.mul_assoc]
    rw [stpN, e, ih (2 * h)]
    unfold stp
    rw [if_neg (by omega)]
    omega
theorem xor_hi_lo (x : Nat) : (2 ^ 8 * (x / 256)) ^^^ (x % 256) = x := by
  have h := Nat.two_pow_add_eq_or_of_lt (i := 8) (b := x % 256) (by omega) (x / 256)
  have h2 : 2 ^ 8 * (x / 256) ^^^ x % 256 = 2 ^ 8 * (x / 256) + x % 256 := by
    have e := Nat.two_pow_add_eq_or_of_lt (i := 8) (b := x % 256) (by omega) (x / 256)
    rw [e]
    apply Nat.eq_of_testBit_eq
    intro i
    rw [Nat.testBit_xor, Nat.testBit_or, Nat.testBit_two_pow_mul]
    by_cases hi : 8 ≤ i
    · have : (x % 256).testBit i = false := Nat.testBit_lt_two_pow (Nat.lt_of_lt_of_le (Nat.mod_lt x (by omega)) (by
        calc 256 = 2 ^ 8 := rfl
          _ ≤ 2 ^ i := Nat.pow_le_pow_right (by omega) hi))
      simp [this]
    · simp [hi]
  omega
/-- the table's step is the byte's -/
theorem table_step (s b : Nat) (hb : b < 256) : stpN 8 ((s ^^^ b) % 256) ^^^ (s / 256) = byteS s b := by
  have e := xor_hi_lo (s ^^^ b)
  have hd : (s ^^^ b) / 256 = s / 256 := by
    have h := Nat.shiftRight_xor_distrib (i := 8) (a := s) (b := b)
    simp [Nat.shiftRight_eq_div_pow] at h
    have h0 : b / 256 = 0 := by omega
    rw [h, h0, Nat.xor_zero]
  rw [byteS_def, ← e, stpN_xor, stpN_shift, hd, Nat.xor_comm]
  congr 1
  have h2 : ((2 ^ 8 * (s / 256) ^^^ (s ^^^ b) % 256)) % 256 = (s ^^^ b) % 256 := by rw [← hd, e]
  rw [h2]
theorem not_xor (x : Nat) (h : x < 2 ^ 32) : 4294967295 - x = x ^^^ 4294967295 := by
  have e : 2 ^ 32 - (x + 1) = x ^^^ (2 ^ 32 - 1) := by
    apply Nat.eq_of_testBit_eq
    intro i
    rw [Nat.testBit_two_pow_sub_succ h, Nat.testBit_xor, Nat.testBit_two_pow_sub_one]
    by_cases hi : i < 32
    · simp [hi]
    · have : x.testBit i = false := Nat.testBit_lt_two_pow (Nat.lt_of_lt_of_le h (Nat.pow_le_pow_right (by omega) (by omega)))
      simp [hi, this]
  have e2 : 2 ^ 32 - 1 = 4294967295 := rfl
  rw [e2] at e
  omega
end Sw

/- The contract of sum.Made: the table of the states behind all bytes. -/
set_option linter.unusedVariables false
namespace Go.Proofs.YtjcbjocgachpjaaGreatDoor
open Go.RowKit
open Sw
/-- a row of cells is the table -/
def IsTab (cs : Array Value) : Prop := cs.size = 256 ∧ ∀ i, i < 256 → cs[i]? = some (.int .u32 (stpN 8 i : Nat))
theorem info_tab : ∃ v : Array Value, (Tryz.prog.info? 170).map (fun i => (i.zero, i.size)) = some (some (.agg v), 256) ∧ v.size = 256 := ⟨Array.replicate 256 (.int .u32 0), by kernel_rfl, by kernel_rfl⟩
theorem stp_walk_odd (x : Nat) (hx : x < 4294967296) (h : x % 2 = 1) : bits .xor .u32 ((x : Int) / 2) 3988292384 = (stp x : Nat) := by
  have e : ((x : Int) / 2) = ((x / 2 : Nat) : Int) := by omega
  rw [e]
  have := u32_xor_nat (x / 2) 3988292384 (by omega) (by omega)
  rw [stp, if_pos h, poly]
  exact this
theorem stp_walk_even (x : Nat) (h : ¬ x % 2 = 1) : (x : Int) / 2 = (stp x : Nat) := by
  rw [stp, if_neg h]; omega
theorem and_walk (x : Nat) (hx : x < 4294967296) : bits .and .u32 (x : Int) 1 = ((x % 2 : Nat) : Int) := by
  have := u32_and_nat x 1 hx (by omega)
  rw [Nat.and_one_is_mod] at this
  exact this
set_option maxRecDepth 100000 in
set_option maxHeartbeats 1000000 in
theorem made_any (w : World) : Calls Tryz.prog 125 #[] w fun e w' => ∃ cs, e = .returned (.agg cs) ∧ IsTab cs ∧ Below w.heap.size w w' := by
  obtain ⟨v, hv, hvs⟩ := info_tab
  obtain ⟨hz, hzi⟩ := zero_of_info hv
  have HV := Lib.hid hvs; clear hvs
  have HZI := Lib.hid hzi; clear hzi hv
  go_enter Tryz.func125, Tryz.ntmps125
  go_wp2
  clear hz
  go_loopw [1, 2, 3] (fun _ _ t wr => ∃ k : Nat, k ≤ 256 ∧ t = .int .i64 k ∧ (∃ cs : Array Value, Blk wr w.heap.size 170 cs ∧ cs.size = 256 ∧ ∀ i, i < k → cs[i]? = some (.int .u32 (stpN 8 i : Nat))) ∧ Below w.heap.size w wr) (fun _ _ t _ => 256 - (intOf t).toNat)
  case atStart => exact ⟨0, Nat.zero_le _, rfl, ⟨_, Blk.new _ _ _, HV.out, fun i hi => by omega⟩, (Below.refl _ _).alloc (Nat.le_refl _) _⟩
  case round =>
    obtain ⟨k, hk, rfl, ⟨cs, hcs, hsz, hat⟩, hb⟩ := hrel
    by_cases hlt : k < 256
    · have hf := Blk.frozen hcs k
      have hc : wr.cell? ⟨w.heap.size, k, none⟩ = some (cs[k]'(by omega)) := by rw [Blk.cell hcs k]; exact Array.getElem?_eq_getElem (by omega)
      generalize cs[k]'(by omega) = old at hc
      have HAT := Lib.hid hat; clear hat
      have HSZ := Lib.hid hsz; clear hsz
      go_wp2
      go_loop [2, 8] (fun x t => ∃ j : Nat, j ≤ 8 ∧ t = .int .i64 j ∧ x = .int .u32 (stpN j k : Nat)) (fun _ t => 8 - (intOf t).toNat)
      case atStart => exact ⟨0, Nat.zero_le _, rfl, rfl⟩
      case round =>
        obtain ⟨j, hj, rfl, rfl⟩ := hrel
        by_cases hjl : j < 8
        · have hx := stpN_lt j k (by omega)
          have ha := and_walk (stpN j k) hx
          by_cases ho : stpN j k % 2 = 1
          · have hst := stp_walk_odd (stpN j k) hx ho
            rw [ho] at ha
            have HST := Lib.hid hst; clear hst ho hx
            go_wp2
            exact ⟨⟨j + 1, by omega, by go_num, by rw [HST.out, stpN]⟩, by simp [intOf]; omega⟩
          · have hst := stp_walk_even (stpN j k) ho
            have ho' : stpN j k % 2 = 0 := by omega
            rw [ho'] at ha
            have HST := Lib.hid hst; clear hst ho hx ho'
            go_wp2
            exact ⟨⟨j + 1, by omega, by go_num, by rw [HST.out, stpN]⟩, by simp [intOf]; omega⟩
        · obtain rfl : j = 8 := by omega
          go_wp2
          go_roundw
          case rel =>
            refine ⟨k + 1, by omega, by go_num, ⟨_, Blk.put hcs k _, by simpa using HSZ.out, fun i hi => ?_⟩, hb.setCell (Nat.le_refl _) _⟩
            rw [Array.getElem?_setIfInBounds]
            by_cases hik : k = i
            · subst hik
              rw [if_pos rfl, if_pos (by have := HSZ.out; omega)]
            · rw [if_neg hik]
              exact HAT.out i (by omega)
          case measure => simp [intOf]; omega
    · obtain rfl : k = 256 := by omega
      have hi : (Tryz.prog.info? 170).map (·.size) = some cs.size := by rw [hsz]; exact HZI.out
      have HI := Lib.hid hi; clear hi
      have HAT := Lib.hid hat; clear hat
      have HSZ := Lib.hid hsz; clear hsz
      have hone : cs.all (·.oneCell') = true := by
        rw [Array.all_eq_true]
        intro i hi
        have h := HAT.out i (by have := HSZ.out; omega)
        rw [Array.getElem?_eq_getElem hi] at h
        injection h with h
        rw [h]; rfl
      have HO := Lib.hid hone; clear hone
      go_wp2_with (first | (refine wpList_load_row rfl 170 _ rfl w.heap.size rfl 170 cs (0, 0) _ hcs Tryz.underlying170 rfl HI.out ?_) | (refine wpList_store_row rfl 170 _ _ rfl w.heap.size cs rfl rfl 170 cs hcs HI.out rfl HO.out ?_))
      refine bodyPost_ret (results_cell_row rfl _ _ w.heap.size 170 cs (0, 0) _ rfl (setRow_heap wr w.heap.size cs cs _ _ hcs) Tryz.underlying170 rfl HI.out) rfl ⟨cs, rfl, ⟨HSZ.out, HAT.out⟩, hb.trans ?_⟩
      exact ⟨rfl, rfl, rfl, by simp, fun i hi => setRow_other wr w.heap.size i cs (by omega)⟩
end Go.Proofs.YtjcbjocgachpjaaGreatDoor
/- Contracts of sum.Table.Step, Begin, End. -/
set_option linter.unusedVariables false
namespace Go.Proofs.YtjcbjocgachpjaaGreatDoor
open Go.RowKit
open Sw
theorem step_index (s b : Nat) (hb : b < 256) : bits .xor .u8 ((s : Int) % 256) (b : Int) = (((s ^^^ b) % 256 : Nat) : Int) := by
  have h := u8_xor_nat (s % 256) b (by omega) hb
  have e : ((s : Int) % 256) = ((s % 256 : Nat) : Int) := by omega
  rw [e, h]
  have hx := Nat.xor_mod_two_pow (a := s) (b := b) (n := 8)
  have hb2 : b % 256 = b := by omega
  have h8 : (2 : Nat) ^ 8 = 256 := rfl
  rw [h8, hb2] at hx
  rw [hx]
theorem step_value (s b : Nat) (hs : s < 4294967296) (hb : b < 256) : bits .xor .u32 ((stpN 8 ((s ^^^ b) % 256) : Nat) : Int) ((s : Int) / 256) = ((byteS s b : Nat) : Int) := by
  have e : ((s : Int) / 256) = ((s / 256 : Nat) : Int) := by omega
  have hl := stpN_lt 8 ((s ^^^ b) % 256) (by have := Nat.mod_lt (s ^^^ b) (show 0 < 256 by omega); omega)
  rw [e, u32_xor_nat _ _ hl (by omega), table_step s b hb]
set_option maxHeartbeats 400000 in
theorem sumStep_any (w : World) (g : Nat) (cs : Array Value) (s b : Nat) (hs : s < 4294967296) (hb : b < 256) (h : Blk w g 170 cs) (ht : IsTab cs) :
    Calls Tryz.prog 150 #[.pointer (some ⟨g, 0, none⟩), .int .u32 s, .int .u8 b] w fun e w' => e = .returned (.int .u32 (byteS s b : Nat)) ∧ w = w' := by
  have hc : w.cell? ⟨g, (s ^^^ b) % 256, none⟩ = some (.int .u32 (stpN 8 ((s ^^^ b) % 256) : Nat)) := by
    rw [Blk.cell h]
    exact ht.2 _ (Nat.mod_lt _ (by omega))
  have e1 := step_index s b hb
  have e2 := step_value s b hs hb
  have hlt : (s ^^^ b) % 256 < 256 := Nat.mod_lt _ (by omega)
  generalize (s ^^^ b) % 256 = x at hc e1 e2 hlt
  generalize stpN 8 x = y at hc e2
  generalize byteS s b = z at e2 ⊢
  have E2 := Lib.hid e2; clear e2
  go_enter Tryz.func150, Tryz.ntmps150
  go_wp2
  go_ret
  rw [← E2.out]
  exact ⟨rfl, rfl⟩
theorem begin_any (w : World) : Calls Tryz.prog 128 #[] w fun e w' => e = .returned (.int .u32 4294967295) ∧ w = w' := by
  go_enter Tryz.func128, Tryz.ntmps128
  go_wp2
  go_ret
  exact ⟨rfl, rfl⟩
theorem end_value (s : Nat) (hs : s < 4294967296) : bits .xor .u32 IntKind.u32.max (s : Int) = ((4294967295 - s : Nat) : Int) := by
  have e : IntKind.u32.max = ((4294967295 : Nat) : Int) := by decide
  rw [e, u32_xor_nat 4294967295 s (by omega) hs, not_xor s hs, Nat.xor_comm]
theorem end_any (w : World) (s : Nat) (hs : s < 4294967296) : Calls Tryz.prog 126 #[.int .u32 s] w fun e w' => e = .returned (.int .u32 (4294967295 - s : Nat)) ∧ w = w' := by
  have hsg : IntKind.u32.signed = false := rfl
  have E := Lib.hid (end_value s hs)
  go_enter Tryz.func126, Tryz.ntmps126
  go_wp2
  go_ret
  rw [← E.out]
  exact ⟨rfl, rfl⟩
theorem feedS_take (s : Nat) (t : ByteArray) (k : Nat) (h : k < t.size) : feedS s (t.data.toList.take (k + 1)) = byteS (feedS s (t.data.toList.take k)) t[k].toNat := by
  rw [List.take_succ_eq_append_getElem (by simpa using h), feedS_append, feedS_cons]
  show byteS _ t.data[k].toNat = byteS _ t.data[k].toNat
  rfl
end Go.Proofs.YtjcbjocgachpjaaGreatDoor
/- Contracts of sum.Table.Feed and sum.Of; the document's example. -/
set_option linter.unusedVariables false
namespace Go.Proofs.YtjcbjocgachpjaaGreatDoor
open Go.RowKit
open Sw
def feedL : Nat → List ByteArray → Nat
  | s, [] => s
  | s, t :: l => feedL (feedS s t.data.toList) l
theorem feedL_lt (l : List ByteArray) : ∀ (s : Nat), s < 2 ^ 32 → feedL s l < 2 ^ 32 := by
  induction l with
  | nil => intro s h; rw [feedL]; exact h
  | cons t l ih => intro s h; rw [feedL]; exact ih _ (feedS_lt _ s h)
theorem feedL_take (s : Nat) (l : List ByteArray) (k : Nat) (h : k < l.length) : feedL s (l.take (k + 1)) = feedS (feedL s (l.take k)) l[k].data.toList := by
  induction l generalizing s k with
  | nil => simp at h
  | cons t l ih =>
    cases k with
    | zero => simp [feedL]
    | succ k =>
      rw [List.take_succ_cons, List.take_succ_cons, feedL, feedL]
      exact ih _ k (by simpa using h)
def strE (t : ByteArray) : List Value := [.string t]
set_option maxRecDepth 100000 in
set_option maxHeartbeats 1000000 in
theorem feed_any (w : World) (g : Nat) (cs : Array Value) (s : Nat) (A : Option Addr) (n c : Nat) (l : List ByteArray) (hs : s < 4294967296) (h : Blk w g 170 cs) (ht : IsTab cs) (hl : l.length = n) (hnm : n ≤ maxLen) (hsl : SlOf w 1 strE A l) (hm : ∀ t ∈ l, t.size ≤ maxLen) :
    Calls Tryz.prog 127 #[.pointer (some ⟨g, 0, none⟩), .int .u32 s, .slice A n c] w fun e w' => e = .returned (.int .u32 (feedL s l : Nat)) ∧ w = w' := by
  unfold maxLen at hnm
  have HS := Lib.hid hsl; clear hsl
  have HM := Lib.hid hm; clear hm
  have HT := Lib.hid ht; clear ht
  have HL := Lib.hid hl; clear hl
  go_enter Tryz.func127, Tryz.ntmps127
  go_wp2_with fail
  go_loop [1, 8, 9, 12] (fun x _ _ i => ∃ k : Nat, k ≤ n ∧ i = .int .i64 k ∧ x = .int .u32 (feedL s (l.take k) : Nat)) (fun _ _ _ i => n - (intOf i).toNat)
  case atStart => exact ⟨0, Nat.zero_le _, rfl, rfl⟩
  case round =>
    obtain ⟨k, hk, rfl, rfl⟩ := hrel
    by_cases hlt : k < n
    · have hkl : k < l.length := by have := HL.out; omega
      obtain ⟨b, off, rfl, hb, hc⟩ := HS.out (by omega)
      have hc0 := hc k hkl 0 (by omega)
      simp [strE] at hc0
      clear hc
      have ht := HM.out l[k] (List.getElem_mem _)
      have HX := Lib.hid (feedL_take s l k hkl)
      have hx := feedL_lt (l.take k) s hs
      generalize feedL s (l.take k) = x at *
      generalize l[k] = t at *
      unfold maxLen at ht
      go_wp2_with fail
      go_loop [1, 9, 18] (fun y _ i => ∃ j : Nat, j ≤ t.size ∧ i = .int .i64 j ∧ y = .int .u32 (feedS x (t.data.toList.take j) : Nat)) (fun _ _ i => t.size - (intOf i).toNat)
      case atStart => exact ⟨0, Nat.zero_le _, rfl, rfl⟩
      case round =>
        obtain ⟨j, hj, rfl, rfl⟩ := hrel
        by_cases hjt : j < t.size
        · have hy := feedS_lt (t.data.toList.take j) x hx
          have HY := Lib.hid (feedS_take x t j hjt)
          have hbt := t[j].toNat_lt
          generalize feedS x (t.data.toList.take j) = y at *
          go_wp2_with (go_at_call 150; refine (sumStep_any _ g cs y t[j].toNat hy (by omega) h HT.out).mono ?_; rintro e w' ⟨rfl, rfl⟩)
          exact ⟨⟨j + 1, by omega, by go_num, by rw [HY.out]⟩, by simp [intOf]; omega⟩
        · obtain rfl : j = t.size := by omega
          have hr : t.data.toList.take t.size = t.data.toList := List.take_of_length_le (by simp)
          have HR := Lib.hid hr; clear hr
          go_wp2_with fail
          exact ⟨⟨k + 1, by omega, by go_num, by rw [HX.out, HR.out]⟩, by simp [intOf]; omega⟩
    · obtain rfl : k = n := by omega
      have hr : l.take k = l := List.take_of_length_le (by rw [HL.out]; exact Nat.le_refl _)
      have HR := Lib.hid hr; clear hr
      go_wp2_with fail
      go_ret
      rw [HR.out]
      exact ⟨rfl, rfl⟩
theorem IsTab.one {cs : Array Value} (h : IsTab cs) : cs.all (·.oneCell') = true := by
  rw [Array.all_eq_true]
  intro i hi
  have h1 := h.2 i (by have := h.1; omega)
  rw [Array.getElem?_eq_getElem hi] at h1
  injection h1 with h1
  rw [h1]; rfl
set_option maxRecDepth 100000 in
set_option maxHeartbeats 1000000 in
theorem sumOf_any (w : World) (t : ByteArray) (ht : t.size ≤ maxLen) :
    Calls Tryz.prog 86 #[.string t] w fun e w' => e = .returned (.int .u32 (ofS t.data.toList : Nat)) ∧ Below w.heap.size w w' := by
  obtain ⟨v, hv, hvs⟩ := info_tab
  obtain ⟨hz, hzi⟩ := zero_of_info hv
  have HV := Lib.hid hvs; clear hvs
  have HZI := Lib.hid hzi; clear hzi hv
  have HT := Lib.hid ht; clear ht
  have hx := feedS_lt t.data.toList 4294967295 (by omega)
  go_enter Tryz.func86, Tryz.ntmps86
  go_wp2_with (first | (go_at_call 125; refine (made_any _).mono ?_; rintro e w1 ⟨cs, rfl, htab, hb1⟩; have HTAB := Lib.hid htab; clear htab) | (refine wpList_store_row rfl 170 _ _ rfl w1.heap.size cs rfl rfl 170 v (Blk.new _ _ _) (by rw [HTAB.out.1]; exact HZI.out) (by rw [HV.out, HTAB.out.1]) HTAB.out.one ?_; rw [World.setRow_alloc_new]) | (go_at_call 128; refine (begin_any _).mono ?_; rintro e w' ⟨rfl, rfl⟩))
  have hB := Blk.new (w1.alloc (Obj.cells cs 170)) 9 #[Value.string t]
  have hA := Blk.alloc (Blk.new w1 170 cs) (Obj.cells #[Value.string t] 9)
  rw [show (w1.alloc (Obj.cells cs 170)).heap.size = w1.heap.size + 1 by simp] at hB
  refine (feed_any _ w1.heap.size cs 4294967295 (some ⟨w1.heap.size + 1, 0, none⟩) 1 1 [t] (by omega) hA HTAB.out rfl (by unfold maxLen; omega) (SlOf.of_blk1 (e := Value.string) hB rfl) (by simpa using HT.out)).mono ?_
  rintro e w' ⟨rfl, rfl⟩
  have he : feedL 4294967295 [t] = feedS 4294967295 t.data.toList := by simp [feedL]
  rw [he]
  clear he
  go_wp2_with (go_at_call 126; refine (end_any _ _ hx).mono ?_; rintro e w' ⟨rfl, rfl⟩)
  go_ret
  exact ⟨rfl, (hb1.alloc hb1.size _).alloc (by simpa using Nat.le_succ_of_le hb1.size) _⟩
end Go.Proofs.YtjcbjocgachpjaaGreatDoor
/- Contracts of node.Print and of the reference's Print. -/
set_option linter.unusedVariables false
set_option linter.unusedSimpArgs false
namespace Sw
open Go
def printN (n : Nd) : Pr := ⟨n.kind, n.mode, n.time, n.data.size, if n.kind = 1 then (ofS n.data.data.toList : Nat) else 0⟩
end Sw
namespace Go.Proofs.YtjcbjocgachpjaaGreatDoor
open Go.RowKit
open Sw
set_option maxRecDepth 100000 in
set_option maxHeartbeats 4000000 in
theorem print_any (w : World) (n : Nd) (hm : n.data.size ≤ maxLen) :
    Calls Tryz.prog 48 #[.agg n.c] w fun e w' => e = .returned (.agg (printN n).c) ∧ Below w.heap.size w w' := by
  have HS := Lib.hid (fun W => sumOf_any W n.data hm)
  obtain ⟨kind, mode, time, data⟩ := n
  unfold printN Pr.c Nd.c
  simp only at HS hm ⊢
  unfold maxLen at hm
  by_cases hk : kind = 1
  · rw [if_pos hk]
    subst hk
    generalize ofS data.data.toList = sm at *
    go_enter Tryz.func48, Tryz.ntmps48
    go_wp2_with fail
    refine (HS.out _).mono ?_
    rintro e w1 ⟨rfl, hb1⟩
    have hP := (blk_trd w (.cells #[.int .i64 1, .int .i64 mode, .int .u32 time, .string data] 43) (.cells #[.int .i64 0, .int .i64 0, .int .u32 0, .int .i64 0, .int .u32 0] 55) #[.int .i64 1, .int .i64 mode, .int .u32 time, .int .i64 data.size, .int .u32 0] 55).below hb1 (by simp)
    have hR := (blk_mid w (.cells #[.int .i64 1, .int .i64 mode, .int .u32 time, .string data] 43) #[.int .i64 0, .int .i64 0, .int .u32 0, .int .i64 0, .int .u32 0] 55 (.cells #[.int .i64 1, .int .i64 mode, .int .u32 time, .int .i64 data.size, .int .u32 0] 55)).below hb1 (by simp)
    have hbw : Below w.heap.size w w1 := ((((Below.refl _ _).alloc (Nat.le_refl _) _).alloc (by simp) _).alloc (by simp; omega) _).trans (hb1.mono (by simp; omega))
    have p0 := hP.cell 0
    have p1 := hP.cell 1
    have p2 := hP.cell 2
    have p3 := hP.cell 3
    have p4 := hP.cell 4
    have pf := hP.frozen 4
    have r0 := hR.cell 0
    have r1 := hR.cell 1
    have r2 := hR.cell 2
    have r3 := hR.cell 3
    have r4 := hR.cell 4
    have f0 := hR.frozen 0
    have f1 := hR.frozen 1
    have f2 := hR.frozen 2
    have f3 := hR.frozen 3
    have f4 := hR.frozen 4
    simp at p0 p1 p2 p3 p4 r0 r1 r2 r3 r4
    have HP := Lib.hid hP; clear hP
    have HR := Lib.hid hR; clear hR
    go_wp2_with fail
    refine bodyPost_ret (results_cell_row rfl _ _ (w.heap.size + 1) 55 #[.int .i64 1, .int .i64 mode, .int .u32 time, .int .i64 data.size, .int .u32 sm] (0, 0) _ rfl ((((((HR.out.far (p := ⟨w.heap.size + 1 + 1, 4, none⟩) (by simp) _).put 0 (.int .i64 1)).put 1 (.int .i64 mode)).put 2 (.int .u32 time)).put 3 (.int .i64 data.size)).put 4 (.int .u32 sm)) Tryz.underlying55 rfl (by kernel_rfl)) rfl ⟨rfl, ?_⟩
    exact (((((hbw.setCell (by simp; omega) _).setCell (by simp) _).setCell (by simp) _).setCell (by simp) _).setCell (by simp) _).setCell (by simp) _
  · rw [if_neg hk]
    have hkb : (kind == 1) = false := by rw [beq_eq_false_iff_ne]; exact hk
    go_enter Tryz.func48, Tryz.ntmps48
    go_wp2_with fail
    exact bodyPost_ret (results_cell_row rfl _ _ (w.heap.size + 1) 55 #[.int .i64 kind, .int .i64 mode, .int .u32 time, .int .i64 data.size, .int .u32 0] (0, 0) _ rfl (blk_mid w _ _ _ _) Tryz.underlying55 rfl (by kernel_rfl)) rfl ⟨rfl, (((Below.refl _ _).alloc (Nat.le_refl _) _).alloc (by simp) _).alloc (by simp; omega) _⟩
end Go.Proofs.YtjcbjocgachpjaaGreatDoor
/- Contracts of detect.State and of the reference's State. -/
set_option linter.unusedVariables false
set_option linter.unusedSimpArgs false
namespace Sw
open Go
theorem Pr.ext_c (p q : Pr) : p = q ↔ p.kind = q.kind ∧ p.mode = q.mode ∧ p.time = q.time ∧ p.size = q.size ∧ p.sum = q.sum := by
  obtain ⟨a, b, c, d, e⟩ := p
  obtain ⟨a', b', c', d', e'⟩ := q
  simp
instance : DecidableEq Pr := fun p q => decidable_of_iff' _ (Pr.ext_c p q)
end Sw
namespace Go.Proofs.YtjcbjocgachpjaaGreatDoor
open Go.RowKit
open Sw
/-- the two boxes -/
def Boxes (w : World) (was : Pr) (n : Nd) (W : World) : Prop := Blk W w.heap.size 55 was.c ∧ Blk W (w.heap.size + 1) 43 n.c ∧ Below w.heap.size w W
theorem Boxes.keep {w : World} {was : Pr} {n : Nd} (W W' : World) (h : Boxes w was n W) (hb : Below W.heap.size W W') : Boxes w was n W' := ⟨h.1.below hb h.1.lt, h.2.1.below hb h.2.1.lt, h.2.2.trans (hb.mono h.2.2.size)⟩
end Go.Proofs.YtjcbjocgachpjaaGreatDoor
/- Contracts of recon.Class, node.Same, recon.Decide, and of the reference's Class and Decide. -/
set_option linter.unusedVariables false
set_option linter.unusedSimpArgs false
namespace Sw
open Go
end Sw
namespace Go.Proofs.YtjcbjocgachpjaaGreatDoor
open Go.RowKit
open Sw
set_option maxRecDepth 100000 in
theorem eq_print (p q : Pr) (W : World) : (binOp .eql 55 (.agg p.c) (.agg q.c)).run Tryz.prog W = .ok (.bool (decide (p = q))) W := by
  obtain ⟨k1, m1, t1, z1, u1⟩ := p
  obtain ⟨k2, m2, t2, z2, u2⟩ := q
  unfold Pr.c
  by_cases h1 : k1 = k2
  · subst h1
    by_cases h2 : m1 = m2
    · subst h2
      by_cases h3 : t1 = t2
      · subst h3
        by_cases h4 : z1 = z2
        · subst h4
          by_cases h5 : u1 = u2
          · subst h5
            simp [go_sem, Tryz.underlying55, Tryz.underlying3, Tryz.underlying41]
          · have hb := beq_eq_false_iff_ne.2 h5
            simp [go_sem, hb, h5, Tryz.underlying55, Tryz.underlying3, Tryz.underlying41]
        · have hb := beq_eq_false_iff_ne.2 h4
          simp [go_sem, hb, h4, Tryz.underlying55, Tryz.underlying3, Tryz.underlying41]
      · have hb := beq_eq_false_iff_ne.2 h3
        simp [go_sem, hb, h3, Tryz.underlying55, Tryz.underlying3, Tryz.underlying41]
    · have hb := beq_eq_false_iff_ne.2 h2
      simp [go_sem, hb, h2, Tryz.underlying55, Tryz.underlying3, Tryz.underlying41]
  · have hb := beq_eq_false_iff_ne.2 h1
    simp [go_sem, hb, h1, Tryz.underlying55, Tryz.underlying3, Tryz.underlying41]
/-- two nodes in their boxes -/
def Nodes2 (w : World) (a b : Nd) (W : World) : Prop := Blk W w.heap.size 43 a.c ∧ Blk W (w.heap.size + 1) 43 b.c ∧ Below w.heap.size w W
theorem Nodes2.keep {w : World} {a b : Nd} (W W' : World) (h : Nodes2 w a b W) (hb : Below W.heap.size W W') : Nodes2 w a b W' := ⟨h.1.below hb h.1.lt, h.2.1.below hb h.2.1.lt, h.2.2.trans (hb.mono h.2.2.size)⟩
end Go.Proofs.YtjcbjocgachpjaaGreatDoor
/- node.Fine: which prints may be. -/
set_option linter.unusedVariables false
set_option linter.unusedSimpArgs false
namespace Sw
open Go
def fineP (p : Pr) : Bool :=
  if p.kind = 0 then decide (p = ⟨0, 0, 0, 0, 0⟩)
  else if p.kind = 2 then decide (0 ≤ p.mode ∧ p.mode ≤ 511) && ((p.time == 0) && ((p.size == 0) && (p.sum == 0)))
  else if p.kind = 1 then decide (0 ≤ p.mode ∧ p.mode ≤ 511) && (decide (splitD p.time).Ok && (decide (0 ≤ p.size) && (decide (p.size ≤ 65000) && (decide (0 < p.size) || (p.sum == 0)))))
  else false
end Sw
namespace Go.Proofs.YtjcbjocgachpjaaGreatDoor
open Go Go.RowKit
open Sw
set_option maxRecDepth 100000 in
set_option maxHeartbeats 4000000 in
theorem nodeFine_any (w : World) (p : Pr) (ht0 : 0 ≤ p.time) (ht1 : p.time < 4294967296) :
    Calls Tryz.prog 51 #[.agg p.c] w fun e w' => e = .returned (.bool (fineP p)) ∧ Below w.heap.size w w' := by
  obtain ⟨kd, md, tm, sz, sm⟩ := p
  simp only at ht0 ht1
  have hb0 := (Below.refl w.heap.size w).alloc (Nat.le_refl _) (.cells #[.int .i64 kd, .int .i64 md, .int .u32 tm, .int .i64 sz, .int .u32 sm] 55)
  have hB0 := Blk.new w 55 #[.int .i64 kd, .int .i64 md, .int .u32 tm, .int .i64 sz, .int .u32 sm]
  have HB := Lib.hid (And.intro hb0 hB0); clear hb0 hB0
  have HM := Lib.hid (fun W => nodeMode_any W md)
  have HD := Lib.hid (fun W => dosRight_any W tm ht0 ht1)
  clear ht0 ht1
  unfold Pr.c
  by_cases k0 : kd = 0
  · subst k0
    have hq := fun W => eq_print ⟨0, md, tm, sz, sm⟩ ⟨0, 0, 0, 0, 0⟩ W
    have hF : fineP ⟨0, md, tm, sz, sm⟩ = decide ((⟨0, md, tm, sz, sm⟩ : Pr) = ⟨0, 0, 0, 0, 0⟩) := rfl
    rw [hF]
    clear hF HM HD
    generalize decide ((⟨0, md, tm, sz, sm⟩ : Pr) = ⟨0, 0, 0, 0, 0⟩) = R at *
    unfold Pr.c at hq
    go_enter Tryz.func51, Tryz.ntmps51
    go_wp2_with fail
    go_ret
    exact ⟨rfl, HB.out.1⟩
  have e0 : (kd == 0) = false := by rw [beq_eq_false_iff_ne]; exact k0
  by_cases k2 : kd = 2
  · subst k2
    have hF : fineP ⟨2, md, tm, sz, sm⟩ = (decide (0 ≤ md ∧ md ≤ 511) && ((tm == 0) && ((sz == 0) && (sm == 0)))) := rfl
    rw [hF]
    clear hF HD k0 e0
    generalize decide (0 ≤ md ∧ md ≤ 511) = R at *
    obtain ⟨q1, hq1⟩ : ∃ q, (tm == 0) = q := ⟨_, rfl⟩
    obtain ⟨q2, hq2⟩ : ∃ q, (sz == 0) = q := ⟨_, rfl⟩
    obtain ⟨q3, hq3⟩ : ∃ q, (sm == 0) = q := ⟨_, rfl⟩
    rw [hq1, hq2, hq3]
    cases R
    · go_enter Tryz.func51, Tryz.ntmps51
      go_wp2_with fail
      refine (HM.out _).mono ?_
      rintro e w1 ⟨rfl, rfl⟩
      go_wp2_with fail
      go_ret
      exact ⟨rfl, HB.out.1⟩
    cases q1
    · go_enter Tryz.func51, Tryz.ntmps51
      go_wp2_with fail
      refine (HM.out _).mono ?_
      rintro e w1 ⟨rfl, rfl⟩
      go_wp2_with fail
      go_ret
      exact ⟨rfl, HB.out.1⟩
    cases q2
    · go_enter Tryz.func51, Tryz.ntmps51
      go_wp2_with fail
      refine (HM.out _).mono ?_
      rintro e w1 ⟨rfl, rfl⟩
      go_wp2_with fail
      go_ret
      exact ⟨rfl, HB.out.1⟩
    · go_enter Tryz.func51, Tryz.ntmps51
      go_wp2_with fail
      refine (HM.out _).mono ?_
      rintro e w1 ⟨rfl, rfl⟩
      go_wp2_with fail
      go_ret
      exact ⟨rfl, HB.out.1⟩
  have e2 : (kd == 2) = false := by rw [beq_eq_false_iff_ne]; exact k2
  by_cases k1 : kd = 1
  · subst k1
    have hF : fineP ⟨1, md, tm, sz, sm⟩ = (decide (0 ≤ md ∧ md ≤ 511) && (decide (splitD tm).Ok && (decide (0 ≤ sz) && (decide (sz ≤ 65000) && (decide (0 < sz) || (sm == 0)))))) := rfl
    rw [hF]
    clear hF k0 e0 k2 e2
    generalize decide (0 ≤ md ∧ md ≤ 511) = R at *
    generalize decide (splitD tm).Ok = T at *
    obtain ⟨q3, hq3⟩ : ∃ q, (sm == 0) = q := ⟨_, rfl⟩
    rw [hq3]
    cases R
    · go_enter Tryz.func51, Tryz.ntmps51
      go_wp2_with fail
      refine (HM.out _).mono ?_
      rintro e w1 ⟨rfl, rfl⟩
      go_wp2_with fail
      go_ret
      exact ⟨rfl, HB.out.1⟩
    cases T
    · go_enter Tryz.func51, Tryz.ntmps51
      go_wp2_with fail
      refine (HM.out _).mono ?_
      rintro e w1 ⟨rfl, rfl⟩
      go_wp2_with fail
      refine (HD.out _).mono ?_
      rintro e w2 ⟨rfl, hb⟩
      have H2 := Lib.hid (HB.out.1.trans (hb.mono HB.out.1.size)); clear hb
      go_wp2_with fail
      go_ret
      exact ⟨rfl, H2.out⟩
    by_cases s0 : 0 ≤ sz
    · rw [decide_eq_true s0]
      by_cases s1 : sz ≤ 65000
      · rw [decide_eq_true s1]
        by_cases s2 : 0 < sz
        · rw [decide_eq_true s2]
          go_enter Tryz.func51, Tryz.ntmps51
          go_wp2_with fail
          refine (HM.out _).mono ?_
          rintro e w1 ⟨rfl, rfl⟩
          go_wp2_with fail
          refine (HD.out _).mono ?_
          rintro e w2 ⟨rfl, hb⟩
          have hB2 := HB.out.2.below hb HB.out.2.lt
          have x3 := hB2.cell 3
          have x4 := hB2.cell 4
          simp at x3 x4
          have H2 := Lib.hid (HB.out.1.trans (hb.mono HB.out.1.size)); clear hb hB2
          go_wp2_with fail
          go_ret
          exact ⟨rfl, H2.out⟩
        · rw [decide_eq_false s2]
          cases q3
          · go_enter Tryz.func51, Tryz.ntmps51
            go_wp2_with fail
            refine (HM.out _).mono ?_
            rintro e w1 ⟨rfl, rfl⟩
            go_wp2_with fail
            refine (HD.out _).mono ?_
            rintro e w2 ⟨rfl, hb⟩
            have hB2 := HB.out.2.below hb HB.out.2.lt
            have x3 := hB2.cell 3
            have x4 := hB2.cell 4
            simp at x3 x4
            have H2 := Lib.hid (HB.out.1.trans (hb.mono HB.out.1.size)); clear hb hB2
            go_wp2_with fail
            go_ret
            first | exact ⟨rfl, H2.out⟩ | (refine ⟨?_, H2.out⟩; show Ending.returned (.bool (decide (0 < sz))) = _; rw [decide_eq_false (by omega)]; rfl)
          · go_enter Tryz.func51, Tryz.ntmps51
            go_wp2_with fail
            refine (HM.out _).mono ?_
            rintro e w1 ⟨rfl, rfl⟩
            go_wp2_with fail
            refine (HD.out _).mono ?_
            rintro e w2 ⟨rfl, hb⟩
            have hB2 := HB.out.2.below hb HB.out.2.lt
            have x3 := hB2.cell 3
            have x4 := hB2.cell 4
            simp at x3 x4
            have H2 := Lib.hid (HB.out.1.trans (hb.mono HB.out.1.size)); clear hb hB2
            go_wp2_with fail
            go_ret
            first | exact ⟨rfl, H2.out⟩ | (refine ⟨?_, H2.out⟩; show Ending.returned (.bool (decide (0 < sz))) = _; rw [decide_eq_false (by omega)]; rfl)
      · rw [decide_eq_false s1]
        go_enter Tryz.func51, Tryz.ntmps51
        go_wp2_with fail
        refine (HM.out _).mono ?_
        rintro e w1 ⟨rfl, rfl⟩
        go_wp2_with fail
        refine (HD.out _).mono ?_
        rintro e w2 ⟨rfl, hb⟩
        have hB2 := HB.out.2.below hb HB.out.2.lt
        have x3 := hB2.cell 3
        have x4 := hB2.cell 4
        simp at x3 x4
        have H2 := Lib.hid (HB.out.1.trans (hb.mono HB.out.1.size)); clear hb hB2
        go_wp2_with fail
        go_ret
        exact ⟨rfl, H2.out⟩
    · rw [decide_eq_false s0]
      go_enter Tryz.func51, Tryz.ntmps51
      go_wp2_with fail
      refine (HM.out _).mono ?_
      rintro e w1 ⟨rfl, rfl⟩
      go_wp2_with fail
      refine (HD.out _).mono ?_
      rintro e w2 ⟨rfl, hb⟩
      have hB2 := HB.out.2.below hb HB.out.2.lt
      have x3 := hB2.cell 3
      have x4 := hB2.cell 4
      simp at x3 x4
      have H2 := Lib.hid (HB.out.1.trans (hb.mono HB.out.1.size)); clear hb hB2
      go_wp2_with fail
      go_ret
      exact ⟨rfl, H2.out⟩
  have e1 : (kd == 1) = false := by rw [beq_eq_false_iff_ne]; exact k1
  have hF : fineP ⟨kd, md, tm, sz, sm⟩ = false := by unfold fineP; simp only; rw [if_neg k0, if_neg k2, if_neg k1]
  rw [hF]
  clear hF
  go_enter Tryz.func51, Tryz.ntmps51
  go_wp2_with fail
  go_ret
  exact ⟨rfl, HB.out.1⟩
end Go.Proofs.YtjcbjocgachpjaaGreatDoor
/- The lines of a text, plainly. -/
namespace Sw
/-- the lines of a text, with their ends, as strings.Lines tells them -/
def lnG : List UInt8 → List UInt8 → List (List UInt8)
  | acc, [] => if acc = [] then [] else [acc]
  | acc, c :: l => if c = 10 then (acc ++ [c]) :: lnG [] l else lnG (acc ++ [c]) l
def linesL (s : List UInt8) : List (List UInt8) := lnG [] s
theorem lnG_skip (r : List UInt8) : ∀ (a acc : List UInt8), (10 : UInt8) ∉ a → lnG acc (a ++ 10 :: r) = (acc ++ a ++ [10]) :: lnG [] r
  | [], acc, _ => by rw [List.nil_append, lnG, if_pos rfl, List.append_nil]
  | c :: a, acc, h => by
    rw [List.mem_cons, not_or] at h
    rw [List.cons_append, lnG, if_neg (fun e => h.1 e.symm), lnG_skip r a (acc ++ [c]) h.2]
    simp
theorem lines_cons (a r : List UInt8) (h : (10 : UInt8) ∉ a) : linesL (a ++ 10 :: r) = (a ++ [10]) :: linesL r := by
  unfold linesL
  rw [lnG_skip r a [] h, List.nil_append]
theorem lnG_last : ∀ (a acc : List UInt8), (10 : UInt8) ∉ a → lnG acc a = if acc ++ a = [] then [] else [acc ++ a]
  | [], acc, _ => by rw [lnG, List.append_nil]
  | c :: a, acc, h => by
    rw [List.mem_cons, not_or] at h
    rw [lnG, if_neg (fun e => h.1 e.symm), lnG_last a (acc ++ [c]) h.2]
    simp
theorem lines_last (a : List UInt8) (h : (10 : UInt8) ∉ a) (h0 : a ≠ []) : linesL a = [a] := by
  unfold linesL
  rw [lnG_last a [] h, List.nil_append, if_neg h0]
/-- rows of lines -/
theorem lines_rows : ∀ (L : List (List UInt8)), (∀ a ∈ L, (10 : UInt8) ∉ a) → linesL (L.flatMap fun a => a ++ [10]) = L.map fun a => a ++ [10]
  | [], _ => rfl
  | a :: L, h => by
    rw [List.flatMap_cons, List.append_assoc, List.singleton_append, lines_cons a _ (h a (List.mem_cons_self ..)), lines_rows L (fun b hb => h b (List.mem_cons_of_mem _ hb))]
    rfl
end Sw

