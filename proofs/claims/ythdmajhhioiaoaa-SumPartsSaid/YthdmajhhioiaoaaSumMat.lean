/- Contracts of the matrices of layer 2: nought, times, twice; Noughts and Join. -/
import Derived.Test.YthdmajhhioiaoaaSumFeed
import Derived.Test.YthdmajhhioiaoaaSumPlainB
set_option linter.unusedVariables false
namespace Go.Proofs.Ythdmajhhioiaoaa
open Go.RowKit
open Sw
/-- a row of cells is the map of states -/
def IsMat (cs : Array Value) (f : Nat → Nat) : Prop := cs.size = 32 ∧ ∀ i, i < 32 → cs[i]? = some (.int .u32 (f (2 ^ i) : Nat))
theorem below_of_alloc (w : World) {o : Obj} {w' : World} (h : Below (w.alloc o).heap.size (w.alloc o) w') : Below w.heap.size w w' :=
  ((Below.refl _ _).alloc (Nat.le_refl _) o).trans (h.mono (by simp))
theorem info_mat : ∃ v : Array Value, (Try.prog.info? 92).map (fun i => (i.zero, i.size)) = some (some (.agg v), 32) ∧ v.size = 32 := ⟨Array.replicate 32 (.int .u32 0), by kernel_rfl, by kernel_rfl⟩
theorem IsMat.one {cs : Array Value} {f : Nat → Nat} (h : IsMat cs f) : cs.all (·.oneCell') = true := by
  rw [Array.all_eq_true]
  intro i hi
  have h1 := h.2 i (by have := h.1; omega)
  rw [Array.getElem?_eq_getElem hi] at h1
  injection h1 with h1
  rw [h1]; rfl
set_option maxRecDepth 100000 in
set_option maxHeartbeats 1000000 in
theorem times_any (w : World) (g : Nat) (cs : Array Value) (f : Nat → Nat) (s : Nat) (hs : s < 4294967296) (h : Blk w g 92 cs) (hm : IsMat cs f) (hf : Lin f) :
    Calls Try.prog 61 #[.pointer (some ⟨g, 0, none⟩), .int .u32 s] w fun e w' => e = .returned (.int .u32 (f s : Nat)) ∧ w = w' := by
  have HM := Lib.hid hm; clear hm
  have HF := Lib.hid hf; clear hf
  go_enter Try.func61, Try.ntmps61
  go_wp2_with fail
  go_loop [4, 5, 6] (fun x _ i => ∃ k : Nat, k ≤ 32 ∧ i = .int .i64 k ∧ x = .int .u32 (f (s % 2 ^ k) : Nat)) (fun _ _ i => 32 - (intOf i).toNat)
  case atStart => exact ⟨0, Nat.zero_le _, rfl, by rw [Nat.pow_zero, Nat.mod_one, HF.out.zero]; rfl⟩
  case round =>
    obtain ⟨k, hk, rfl, rfl⟩ := hrel
    by_cases hlt : k < 32
    · have hc : w.cell? ⟨g, k, none⟩ = some (.int .u32 (f (2 ^ k) : Nat)) := by rw [Blk.cell h]; exact HM.out.2 k hlt
      have hd : s / 2 ^ k < 4294967296 := Nat.lt_of_le_of_lt (Nat.div_le_self _ _) hs
      have ha := and_walk (s / 2 ^ k) hd
      have hcast : (((s / 2 ^ k : Nat)) : Int) = (s : Int) / 2 ^ k := by simp
      rw [hcast] at ha
      by_cases ho : s / 2 ^ k % 2 = 1
      · have ht : (bits BinOp.and IntKind.u32 ((s : Int) / 2 ^ k) 1 == 1) = true := by rw [ha, ho]; rfl
        have hx := u32_xor_nat (f (s % 2 ^ k)) (f (2 ^ k)) (HF.out.lt _ (Nat.lt_of_le_of_lt (Nat.mod_le _ _) hs)) (HF.out.lt _ (two_pow_lt k hlt))
        rw [← times_odd HF.out s k ho] at hx
        have HX := Lib.hid hx; clear hx ha hcast
        go_wp2_with fail
        exact ⟨⟨k + 1, by omega, by go_num, by rw [HX.out]⟩, by simp [intOf]; omega⟩
      · have ht : (bits BinOp.and IntKind.u32 ((s : Int) / 2 ^ k) 1 == 1) = false := by rw [ha]; simp; omega
        have HX := Lib.hid (mod_succ_even s k ho)
        clear ha hcast
        go_wp2_with fail
        exact ⟨⟨k + 1, by omega, by go_num, by rw [HX.out]⟩, by simp [intOf]; omega⟩
    · obtain rfl : k = 32 := by omega
      have hr : s % 2 ^ 32 = s := Nat.mod_eq_of_lt hs
      have HR := Lib.hid hr; clear hr
      go_wp2_with fail
      go_ret
      rw [HR.out]
      exact ⟨rfl, rfl⟩
set_option maxRecDepth 100000 in
set_option maxHeartbeats 1000000 in
theorem nought_any (w : World) : Calls Try.prog 60 #[] w fun e w' => ∃ cs, e = .returned (.agg cs) ∧ IsMat cs (stpN 8) ∧ Below w.heap.size w w' := by
  obtain ⟨v, hv, hvs⟩ := info_tab
  obtain ⟨hz, hzi⟩ := zero_of_info hv
  obtain ⟨m, hm, hms⟩ := info_mat
  obtain ⟨mz, mzi⟩ := zero_of_info hm
  have HV := Lib.hid hvs; clear hvs
  have HZI := Lib.hid hzi; clear hzi hv
  have HMS := Lib.hid hms; clear hms
  have HMI := Lib.hid mzi; clear mzi hm
  go_enter Try.func60, Try.ntmps60
  go_wp2_with (first | (go_at_call 17; refine (made_any _).mono ?_; rintro e w1 ⟨cs, rfl, htab, hb1⟩; have HTAB := Lib.hid htab; clear htab) | (refine wpList_store_row rfl 31 _ _ rfl w1.heap.size cs rfl rfl 31 v (Blk.new _ _ _) (by rw [HTAB.out.1]; exact HZI.out) (by rw [HV.out, HTAB.out.1]) HTAB.out.one ?_; rw [World.setRow_alloc_new]))
  have hB := Blk.new w1 31 cs
  have hA : Blk (w1.alloc (Obj.cells cs 31)) w.heap.size 92 m := ((Blk.new w 92 m).below hb1 (by simp)).alloc _
  have hb2 : Below w.heap.size w (w1.alloc (Obj.cells cs 31)) := (below_of_alloc w hb1).alloc (by have := hb1.size; simp at this; omega) _
  have hne : w.heap.size ≠ w1.heap.size := by have := hb1.size; simp at this; omega
  clear hb1 hz mz
  generalize w1.alloc (Obj.cells cs 31) = w2 at *
  generalize w1.heap.size = tb at *
  go_loopw [2, 4] (fun _ t wr => ∃ k : Nat, k ≤ 32 ∧ t = .int .i64 k ∧ Blk wr tb 31 cs ∧ (∃ ms : Array Value, Blk wr w.heap.size 92 ms ∧ ms.size = 32 ∧ ∀ i, i < k → ms[i]? = some (.int .u32 (stpN 8 (2 ^ i) : Nat))) ∧ Below w.heap.size w wr) (fun _ t _ => 32 - (intOf t).toNat)
  case atStart => exact ⟨0, Nat.zero_le _, rfl, hB, ⟨m, hA, HMS.out, fun i hi => by omega⟩, hb2⟩
  case round =>
    obtain ⟨k, hk, rfl, hBr, ⟨ms, hms, hsz, hat⟩, hbr⟩ := hrel
    have HAT := Lib.hid hat; clear hat
    have HSZ := Lib.hid hsz; clear hsz
    by_cases hlt : k < 32
    · have hf := Blk.frozen hms k
      have hc : wr.cell? ⟨w.heap.size, k, none⟩ = some (ms[k]'(by have := HSZ.out; omega)) := by rw [Blk.cell hms k]; exact Array.getElem?_eq_getElem (by have := HSZ.out; omega)
      generalize ms[k]'(by have := HSZ.out; omega) = old at hc
      have h2 : (2 ^ k : Nat) < 4294967296 := two_pow_lt k hlt
      have hby : byteS (2 ^ k) 0 = stpN 8 (2 ^ k) := noughtByte _
      have HBY := Lib.hid hby; clear hby
      go_wp2_with fail
      have hs3 : ((2 : Int) ^ k) % 4294967296 = ((2 ^ k : Nat) : Int) := by
        have e : ((2 : Int) ^ k) = ((2 ^ k : Nat) : Int) := by simp
        rw [e]; clear e HBY; revert h2; generalize (2 ^ k : Nat) = y; omega
      rw [hs3]
      refine (step_any _ tb cs (2 ^ k) 0 h2 (by omega) hBr HTAB.out).mono ?_
      rintro e w' ⟨rfl, rfl⟩
      clear hs3
      go_wp2_with fail
      go_roundw
      case rel =>
        refine ⟨k + 1, by omega, by go_num, hBr.far (by simpa using hne.symm) _, ⟨_, Blk.put hms k _, by simpa using HSZ.out, fun i hi => ?_⟩, hbr.setCell (Nat.le_refl _) _⟩
        rw [Array.getElem?_setIfInBounds]
        by_cases hik : k = i
        · subst hik
          rw [if_pos rfl, if_pos (by have := HSZ.out; omega), HBY.out]
        · rw [if_neg hik]
          exact HAT.out i (by omega)
      case measure => simp [intOf]; omega
    · obtain rfl : k = 32 := by omega
      have hi : (Try.prog.info? 92).map (·.size) = some ms.size := by rw [HSZ.out]; exact HMI.out
      have HI := Lib.hid hi; clear hi
      have hmat : IsMat ms (stpN 8) := ⟨HSZ.out, HAT.out⟩
      have HO := Lib.hid hmat.one
      have HMAT := Lib.hid hmat; clear hmat
      go_wp2_with (first | (refine wpList_load_row rfl 92 _ rfl w.heap.size rfl 92 ms (0, 0) _ hms Try.underlying92 rfl HI.out ?_) | (refine wpList_store_row rfl 92 _ _ rfl w.heap.size ms rfl rfl 92 ms hms HI.out rfl HO.out ?_))
      refine bodyPost_ret (results_cell_row rfl _ _ w.heap.size 92 ms (0, 0) _ rfl (setRow_heap wr w.heap.size ms ms _ _ hms) Try.underlying92 rfl HI.out) rfl ⟨ms, rfl, HMAT.out, hbr.trans ?_⟩
      exact ⟨rfl, rfl, rfl, by simp, fun i hi => setRow_other wr w.heap.size i ms (by omega)⟩
end Go.Proofs.Ythdmajhhioiaoaa
