/- The contract of runs.Count. -/
import Derived.Test.YthmlfeaoaanmoaaRunsRef
import Derived.Deep.WholeRow
set_option linter.unusedVariables false
set_option linter.unusedSimpArgs false
namespace Go.Proofs.Ythmlfeaoaanmoaa
open Go.RowKit
open Sw
def cntA (l : List St) : Array Value := ((List.range 19).map fun k => Value.int .i64 (countS l k)).toArray
theorem cntA_size (l : List St) : (cntA l).size = 19 := by simp [cntA]
theorem cntA_at (l : List St) (k : Nat) (hk : k < 19) : (cntA l)[k]? = some (.int .i64 (countS l k)) := by
  simp [cntA, List.getElem?_range hk]
theorem cntA_one (l : List St) : (cntA l).all (·.oneCell') = true := by
  rw [Array.all_eq_true]
  intro i hi
  simp [cntA, Value.oneCell']
theorem cntA_put (l : List St) (s : St) (k : Nat) (hk : k < 19) (hs : s.sym = (k : Int)) : (cntA l).setIfInBounds k (.int .i64 (countS l k + 1)) = cntA (l ++ [s]) := by
  apply Array.ext_getElem?
  intro i
  rw [Array.getElem?_setIfInBounds, cntA_size]
  by_cases hi : i < 19
  · rw [cntA_at _ i hi, cntA_at _ i hi, countS_snoc]
    by_cases hik : k = i
    · subst hik
      rw [if_pos rfl, if_pos hi, if_pos hs]
    · rw [if_neg hik, if_neg (by omega)]; simp
  · rw [if_neg (by omega), Array.getElem?_eq_none (by rw [cntA_size]; omega), Array.getElem?_eq_none (by rw [cntA_size]; omega)]
theorem cntA_keep (l : List St) (s : St) (hs : s.sym < 0 ∨ 18 < s.sym) : cntA (l ++ [s]) = cntA l := by
  apply Array.ext_getElem?
  intro i
  by_cases hi : i < 19
  · rw [cntA_at _ i hi, cntA_at _ i hi, countS_snoc, if_neg (by omega)]; simp
  · rw [Array.getElem?_eq_none (by rw [cntA_size]; omega), Array.getElem?_eq_none (by rw [cntA_size]; omega)]
theorem countS_le (l : List St) (k : Nat) : 0 ≤ countS l k ∧ countS l k ≤ l.length := by
  unfold countS
  have := List.length_filter_le (fun s : St => decide (s.sym = (k : Int))) l
  omega
theorem info_cnt : (Try.prog.info? 53).map (fun i => (i.zero, i.size)) = some (some (.agg (cntA [])), 19) := by kernel_rfl
set_option maxRecDepth 100000 in
set_option maxHeartbeats 4000000 in
theorem count_any (w : World) (A : Option Addr) (n c : Nat) (l : List St) (hl : l.length = n) (hn : n ≤ maxLen) (hsl : SlOf w 3 stC A l) :
    Calls Try.prog 33 #[.slice A n c] w fun e w' => e = .returned (.agg (cntA l)) ∧ Below w.heap.size w w' := by
  obtain ⟨hz, hzi⟩ := zero_of_info info_cnt
  have HZI := Lib.hid hzi; clear hzi
  unfold maxLen at hn
  have HS := Lib.hid hsl; clear hsl
  have HL := Lib.hid hl; clear hl
  have H0 : cntA [] = cntA (l.take 0) := by simp
  have HC0 := Lib.hid H0; clear H0
  generalize cntA [] = v0 at *
  go_enter Try.func33, Try.ntmps33
  go_wp2_with fail
  clear hz
  go_loopw [4, 7] (fun _ t wr => ∃ k : Nat, k ≤ n ∧ t = .int .i64 k ∧ Blk wr w.heap.size 53 (cntA (l.take k)) ∧ Below w.heap.size w wr) (fun _ t _ => n - (intOf t).toNat)
  case atStart => exact ⟨0, Nat.zero_le _, rfl, by rw [← HC0.out]; exact Blk.new _ _ _, (Below.refl _ _).alloc (Nat.le_refl _) _⟩
  case round =>
    obtain ⟨k, hk, rfl, hB, hbw⟩ := hrel
    by_cases hlt : k < n
    · have hkl : k < l.length := by have := HL.out; omega
      obtain ⟨b, off, rfl, hbb, hcs⟩ := HS.out (by omega)
      have h0 := hcs k hkl 0 (by omega)
      have h1 := hcs k hkl 1 (by omega)
      have h2 := hcs k hkl 2 (by omega)
      rw [← hbw.cell (p := ⟨b, _, none⟩) hbb] at h0 h1 h2
      simp [stC] at h0 h1 h2
      have htk : l.take (k + 1) = l.take k ++ [l[k]] := List.take_succ_eq_append_getElem hkl
      have HTK := Lib.hid htk; clear htk hcs
      have hnb : b ≠ wr.heap.size := by have := hbw.size; omega
      have hBA := hB.alloc (Obj.cells #[.int .i64 l[k].sym, .int .i64 l[k].bits, .int .i64 l[k].more] 56)
      by_cases hin : 0 ≤ l[k].sym ∧ l[k].sym ≤ 18
      · obtain ⟨j, hj⟩ : ∃ j : Nat, l[k].sym = (j : Int) := ⟨l[k].sym.toNat, by omega⟩
        have hj19 : j < 19 := by omega
        have hput := cntA_put (l.take k) l[k] j hj19 hj
        rw [← HTK.out] at hput
        have hc := hBA.cell j
        have hf := hBA.frozen j
        rw [cntA_at _ j hj19] at hc
        have hcb := countS_le (l.take k) j
        have hlen : (l.take k).length ≤ k := List.length_take_le _ _
        have HPUT := Lib.hid hput; clear hput
        rw [hj] at h0 hBA hc hf
        have HBA := Lib.hid hBA; clear hBA
        clear hin hj
        generalize l[k].bits = sb at *
        generalize l[k].more = sc at *
        generalize countS (l.take k) j = q at *
        go_wp2_with fail
        go_roundw
        case rel =>
          exact ⟨k + 1, by omega, by go_num, by rw [← HPUT.out]; exact HBA.out.put j _, (hbw.alloc hbw.size _).setCell (Nat.le_refl _) _⟩
        case measure => simp [intOf]; omega
      · have hkeep := cntA_keep (l.take k) l[k] (by omega)
        rw [← HTK.out] at hkeep
        have HK := Lib.hid hkeep; clear hkeep
        have HBA := Lib.hid hBA; clear hBA
        generalize l[k].sym = sa at *
        generalize l[k].bits = sb at *
        generalize l[k].more = sc at *
        by_cases h0s : 0 ≤ sa
        · have h18 : ¬ sa ≤ 18 := by omega
          clear hin
          go_wp2_with fail
          go_roundw
          case rel =>
            exact ⟨k + 1, by omega, by go_num, by rw [HK.out]; exact HBA.out, hbw.alloc hbw.size _⟩
          case measure => simp [intOf]; omega
        · clear hin
          go_wp2_with fail
          go_roundw
          case rel =>
            exact ⟨k + 1, by omega, by go_num, by rw [HK.out]; exact HBA.out, hbw.alloc hbw.size _⟩
          case measure => simp [intOf]; omega
    · obtain rfl : k = n := by omega
      have ht : l.take k = l := List.take_of_length_le (by have := HL.out; omega)
      rw [ht] at hB
      have hi : (Try.prog.info? 53).map (·.size) = some (cntA l).size := by rw [cntA_size]; exact HZI.out
      have HI := Lib.hid hi; clear hi
      have HO := Lib.hid (cntA_one l)
      clear ht
      go_wp2_with (first | (refine wpList_load_row rfl 53 _ rfl w.heap.size rfl 53 (cntA l) (0, 0) _ hB Try.underlying53 rfl HI.out ?_) | (refine wpList_store_row rfl 53 _ _ rfl w.heap.size (cntA l) rfl rfl 53 (cntA l) hB HI.out rfl HO.out ?_))
      refine bodyPost_ret (results_cell_row rfl _ _ w.heap.size 53 (cntA l) (0, 0) _ rfl (setRow_heap wr w.heap.size (cntA l) (cntA l) _ _ hB) Try.underlying53 rfl HI.out) rfl ⟨rfl, hbw.trans ?_⟩
      exact ⟨rfl, rfl, rfl, by simp, fun i hi => setRow_other wr w.heap.size i (cntA l) (by omega)⟩
end Go.Proofs.Ythmlfeaoaanmoaa
