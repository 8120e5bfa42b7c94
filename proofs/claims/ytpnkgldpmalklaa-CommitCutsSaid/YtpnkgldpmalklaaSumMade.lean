/- The contract of sum.Made: the table of the states behind all bytes. -/
import Derived.Test.YtpnkgldpmalklaaRows
import Derived.Test.YtpnkgldpmalklaaKit
import Derived.Test.YtpnkgldpmalklaaSumPlain
import Derived.Deep.WholeRow
import Derived.Laws.BitsAllLaws
set_option linter.unusedVariables false
namespace Go.Proofs.Ytpnkgldpmalklaa
open Go.RowKit
open Sw
/-- a row of cells is the table -/
def IsTab (cs : Array Value) : Prop := cs.size = 256 ∧ ∀ i, i < 256 → cs[i]? = some (.int .u32 (stpN 8 i : Nat))
theorem info_tab : ∃ v : Array Value, (Try.prog.info? 149).map (fun i => (i.zero, i.size)) = some (some (.agg v), 256) ∧ v.size = 256 := ⟨Array.replicate 256 (.int .u32 0), by kernel_rfl, by kernel_rfl⟩
theorem stp_walk_odd (x : Nat) (hx : x < 4294967296) (h : x % 2 = 1) : bits .xor .u32 ((x : Int) / 2) 3988292384 = (stp x : Nat) := by
  have e : ((x : Int) / 2) = ((x / 2 : Nat) : Int) := by omega
  rw [e]
  have := u32_xor_nat (x / 2) 3988292384 (by omega) (by omega)
  rw [stp, if_pos h, poly]
  exact this
theorem stp_walk_even (x : Nat) (h : ¬ x % 2 = 1) : (x : Int) / 2 = (stp x : Nat) := by
  rw [stp, if_neg h]; omega
theorem and_walk (x : Nat) (hx : x < 4294967296) : bits .and .u32 (x : Int) 1 = ((x % 2 : Nat) : Int) := by
  have := u32_and_nat x 1 hx (by omega)
  rw [Nat.and_one_is_mod] at this
  exact this
set_option maxRecDepth 100000 in
set_option maxHeartbeats 1000000 in
theorem made_any (w : World) : Calls Try.prog 88 #[] w fun e w' => ∃ cs, e = .returned (.agg cs) ∧ IsTab cs ∧ Below w.heap.size w w' := by
  obtain ⟨v, hv, hvs⟩ := info_tab
  obtain ⟨hz, hzi⟩ := zero_of_info hv
  have HV := Lib.hid hvs; clear hvs
  have HZI := Lib.hid hzi; clear hzi hv
  go_enter Try.func88, Try.ntmps88
  go_wp2
  clear hz
  go_loopw [1, 2, 3] (fun _ _ t wr => ∃ k : Nat, k ≤ 256 ∧ t = .int .i64 k ∧ (∃ cs : Array Value, Blk wr w.heap.size 149 cs ∧ cs.size = 256 ∧ ∀ i, i < k → cs[i]? = some (.int .u32 (stpN 8 i : Nat))) ∧ Below w.heap.size w wr) (fun _ _ t _ => 256 - (intOf t).toNat)
  case atStart => exact ⟨0, Nat.zero_le _, rfl, ⟨_, Blk.new _ _ _, HV.out, fun i hi => by omega⟩, (Below.refl _ _).alloc (Nat.le_refl _) _⟩
  case round =>
    obtain ⟨k, hk, rfl, ⟨cs, hcs, hsz, hat⟩, hb⟩ := hrel
    by_cases hlt : k < 256
    · have hf := Blk.frozen hcs k
      have hc : wr.cell? ⟨w.heap.size, k, none⟩ = some (cs[k]'(by omega)) := by rw [Blk.cell hcs k]; exact Array.getElem?_eq_getElem (by omega)
      generalize cs[k]'(by omega) = old at hc
      have HAT := Lib.hid hat; clear hat
      have HSZ := Lib.hid hsz; clear hsz
      go_wp2
      go_loop [2, 8] (fun x t => ∃ j : Nat, j ≤ 8 ∧ t = .int .i64 j ∧ x = .int .u32 (stpN j k : Nat)) (fun _ t => 8 - (intOf t).toNat)
      case atStart => exact ⟨0, Nat.zero_le _, rfl, rfl⟩
      case round =>
        obtain ⟨j, hj, rfl, rfl⟩ := hrel
        by_cases hjl : j < 8
        · have hx := stpN_lt j k (by omega)
          have ha := and_walk (stpN j k) hx
          by_cases ho : stpN j k % 2 = 1
          · have hst := stp_walk_odd (stpN j k) hx ho
            rw [ho] at ha
            have HST := Lib.hid hst; clear hst ho hx
            go_wp2
            exact ⟨⟨j + 1, by omega, by go_num, by rw [HST.out, stpN]⟩, by simp [intOf]; omega⟩
          · have hst := stp_walk_even (stpN j k) ho
            have ho' : stpN j k % 2 = 0 := by omega
            rw [ho'] at ha
            have HST := Lib.hid hst; clear hst ho hx ho'
            go_wp2
            exact ⟨⟨j + 1, by omega, by go_num, by rw [HST.out, stpN]⟩, by simp [intOf]; omega⟩
        · obtain rfl : j = 8 := by omega
          go_wp2
          go_roundw
          case rel =>
            refine ⟨k + 1, by omega, by go_num, ⟨_, Blk.put hcs k _, by simpa using HSZ.out, fun i hi => ?_⟩, hb.setCell (Nat.le_refl _) _⟩
            rw [Array.getElem?_setIfInBounds]
            by_cases hik : k = i
            · subst hik
              rw [if_pos rfl, if_pos (by have := HSZ.out; omega)]
            · rw [if_neg hik]
              exact HAT.out i (by omega)
          case measure => simp [intOf]; omega
    · obtain rfl : k = 256 := by omega
      have hi : (Try.prog.info? 149).map (·.size) = some cs.size := by rw [hsz]; exact HZI.out
      have HI := Lib.hid hi; clear hi
      have HAT := Lib.hid hat; clear hat
      have HSZ := Lib.hid hsz; clear hsz
      have hone : cs.all (·.oneCell') = true := by
        rw [Array.all_eq_true]
        intro i hi
        have h := HAT.out i (by have := HSZ.out; omega)
        rw [Array.getElem?_eq_getElem hi] at h
        injection h with h
        rw [h]; rfl
      have HO := Lib.hid hone; clear hone
      go_wp2_with (first | (refine wpList_load_row rfl 149 _ rfl w.heap.size rfl 149 cs (0, 0) _ hcs Try.underlying149 rfl HI.out ?_) | (refine wpList_store_row rfl 149 _ _ rfl w.heap.size cs rfl rfl 149 cs hcs HI.out rfl HO.out ?_))
      refine bodyPost_ret (results_cell_row rfl _ _ w.heap.size 149 cs (0, 0) _ rfl (setRow_heap wr w.heap.size cs cs _ _ hcs) Try.underlying149 rfl HI.out) rfl ⟨cs, rfl, ⟨HSZ.out, HAT.out⟩, hb.trans ?_⟩
      exact ⟨rfl, rfl, rfl, by simp, fun i hi => setRow_other wr w.heap.size i cs (by omega)⟩
end Go.Proofs.Ytpnkgldpmalklaa
