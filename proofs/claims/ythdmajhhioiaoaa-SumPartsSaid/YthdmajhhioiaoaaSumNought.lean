/- Contracts of sum.matrix.twice, sum.Noughts and sum.Join. -/
import Derived.Test.YthdmajhhioiaoaaSumMat
set_option linter.unusedVariables false
namespace Go.Proofs.Ythdmajhhioiaoaa
open Go.RowKit
open Sw
set_option maxRecDepth 100000 in
set_option maxHeartbeats 1000000 in
theorem twice_any (w : World) (g : Nat) (cs : Array Value) (f : Nat → Nat) (h : Blk w g 92 cs) (hm : IsMat cs f) (hf : Lin f) :
    Calls Try.prog 62 #[.pointer (some ⟨g, 0, none⟩)] w fun e w' => ∃ cs', e = .returned (.agg cs') ∧ IsMat cs' (fun x => f (f x)) ∧ Below w.heap.size w w' := by
  obtain ⟨m, hi, hms⟩ := info_mat
  obtain ⟨mz, mzi⟩ := zero_of_info hi
  have HMS := Lib.hid hms; clear hms
  have HMI := Lib.hid mzi; clear mzi hi
  have HM := Lib.hid hm; clear hm
  have HF := Lib.hid hf; clear hf
  have hlt := h.lt
  have hne : w.heap.size ≠ g := by omega
  go_enter Try.func62, Try.ntmps62
  go_wp2_with fail
  have hA := Blk.new w 92 m
  have hB := h.alloc (Obj.cells m 92)
  have hb := (Below.refl w.heap.size w).alloc (Nat.le_refl _) (Obj.cells m 92)
  clear mz
  generalize w.alloc (Obj.cells m 92) = w2 at *
  go_loopw [3, 4] (fun _ t wr => ∃ k : Nat, k ≤ 32 ∧ t = .int .i64 k ∧ Blk wr g 92 cs ∧ (∃ ms : Array Value, Blk wr w.heap.size 92 ms ∧ ms.size = 32 ∧ ∀ i, i < k → ms[i]? = some (.int .u32 (f (f (2 ^ i)) : Nat))) ∧ Below w.heap.size w wr) (fun _ t _ => 32 - (intOf t).toNat)
  case atStart => exact ⟨0, Nat.zero_le _, rfl, hB, ⟨m, hA, HMS.out, fun i hi => by omega⟩, hb⟩
  case round =>
    obtain ⟨k, hk, rfl, hBr, ⟨ms, hms, hsz, hat⟩, hbr⟩ := hrel
    have HAT := Lib.hid hat; clear hat
    have HSZ := Lib.hid hsz; clear hsz
    by_cases hlt : k < 32
    · have hf := Blk.frozen hms k
      have hc : wr.cell? ⟨w.heap.size, k, none⟩ = some (ms[k]'(by have := HSZ.out; omega)) := by rw [Blk.cell hms k]; exact Array.getElem?_eq_getElem (by have := HSZ.out; omega)
      generalize ms[k]'(by have := HSZ.out; omega) = old at hc
      have hg : wr.cell? ⟨g, k, none⟩ = some (.int .u32 (f (2 ^ k) : Nat)) := by rw [Blk.cell hBr]; exact HM.out.2 k hlt
      have h2 := HF.out.lt _ (two_pow_lt k hlt)
      go_wp2_with (go_at_call 61; refine (times_any _ g cs f (f (2 ^ k)) h2 hBr HM.out HF.out).mono ?_; rintro e w' ⟨rfl, rfl⟩)
      go_roundw
      case rel =>
        refine ⟨k + 1, by omega, by go_num, hBr.far (by simpa using hne.symm) _, ⟨_, Blk.put hms k _, by simpa using HSZ.out, fun i hi => ?_⟩, hbr.setCell (Nat.le_refl _) _⟩
        rw [Array.getElem?_setIfInBounds]
        by_cases hik : k = i
        · subst hik
          rw [if_pos rfl, if_pos (by have := HSZ.out; omega)]
        · rw [if_neg hik]
          exact HAT.out i (by omega)
      case measure => simp [intOf]; omega
    · obtain rfl : k = 32 := by omega
      have hi : (Try.prog.info? 92).map (·.size) = some ms.size := by rw [HSZ.out]; exact HMI.out
      have HI := Lib.hid hi; clear hi
      have hmat : IsMat ms (fun x => f (f x)) := ⟨HSZ.out, HAT.out⟩
      have HO := Lib.hid hmat.one
      have HMAT := Lib.hid hmat; clear hmat
      go_wp2_with (first | (refine wpList_load_row rfl 92 _ rfl w.heap.size rfl 92 ms (0, 0) _ hms Try.underlying92 rfl HI.out ?_) | (refine wpList_store_row rfl 92 _ _ rfl w.heap.size ms rfl rfl 92 ms hms HI.out rfl HO.out ?_))
      refine bodyPost_ret (results_cell_row rfl _ _ w.heap.size 92 ms (0, 0) _ rfl (setRow_heap wr w.heap.size ms ms _ _ hms) Try.underlying92 rfl HI.out) rfl ⟨ms, rfl, HMAT.out, hbr.trans ?_⟩
      exact ⟨rfl, rfl, rfl, by simp, fun i hi => setRow_other wr w.heap.size i ms (by omega)⟩
theorem noughts_nat (n : Int) : max 0 (min n 2147483648) = ((noughts n : Nat) : Int) := by unfold noughts; omega
theorem noughts_le (n : Int) : noughts n ≤ 2147483648 := by unfold noughts; omega
theorem blk_setRow {w : World} {g : Nat} {t : TypeId} {cs : Array Value} (h : Blk w g t cs) (ds : Array Value) : Blk (w.setRow g ds) g t ds := setRow_heap w g cs ds _ _ h
theorem and_walk_i (x : Nat) (hx : x < 4294967296) : bits .and .i64 (x : Int) 1 = ((x % 2 : Nat) : Int) := by
  have h1 : (BitVec.ofInt 64 1).toNat = 2 ^ 1 - 1 := by decide
  have key : (BitVec.ofInt 64 (x : Int) &&& BitVec.ofInt 64 1).toNat = ((x : Int) % ((2 ^ 64 : Nat) : Int)).toNat % 2 ^ 1 := by
    rw [BitVec.toNat_and, BitVec.toNat_ofInt, h1, Nat.and_two_pow_sub_one_eq_mod]
  show IntKind.i64.wrap ((BitVec.ofInt 64 (x : Int) &&& BitVec.ofInt 64 1).toNat : Nat) = _
  rw [key, IntKind.wrap_i64]
  omega
theorem mat_twice {cs : Array Value} {d : Nat} (h : IsMat cs (fun x => stpN (8 * d) (stpN (8 * d) x))) : IsMat cs (stpN (8 * (d + d))) :=
  ⟨h.1, fun i hi => by rw [h.2 i hi, Nat.mul_add, stpN_add]⟩
set_option maxRecDepth 100000 in
set_option maxHeartbeats 1000000 in
theorem noughts_any (w : World) (s : Nat) (n : Int) (hs : s < 4294967296) :
    Calls Try.prog 43 #[.int .u32 s, .int .i64 n] w fun e w' => e = .returned (.int .u32 (stpN (8 * noughts n) s : Nat)) ∧ Below w.heap.size w w' := by
  obtain ⟨m, hi, hms⟩ := info_mat
  obtain ⟨mz, mzi⟩ := zero_of_info hi
  have HMS := Lib.hid hms; clear hms
  have HMI := Lib.hid mzi; clear mzi hi
  have hn := noughts_nat n
  have hl := noughts_le n
  generalize noughts n = N at *
  generalize hmin : min n 2147483648 = y at hn
  go_enter Try.func43, Try.ntmps43
  go_wp2_with (first | (go_at_call 60; refine (nought_any _).mono ?_; rintro e w1 ⟨cs, rfl, hmat, hb1⟩; have HMAT := Lib.hid hmat; clear hmat) | (refine wpList_store_row rfl 92 _ _ rfl w1.heap.size cs rfl rfl 92 m (Blk.new _ _ _) (by rw [HMAT.out.1]; exact HMI.out) (by rw [HMS.out, HMAT.out.1]) HMAT.out.one ?_; rw [World.setRow_alloc_new]))
  have hA := Blk.new w1 92 cs
  have hb2 := hb1.alloc hb1.size (Obj.cells cs 92)
  have hle := hb1.size
  generalize w1.alloc (Obj.cells cs 92) = w2 at *
  generalize w1.heap.size = g at *
  clear hb1 mz hmin
  go_loopw [0, 1] (fun x t wr => ∃ q d r : Nat, t = .int .i64 q ∧ x = .int .u32 (stpN (8 * r) s : Nat) ∧ q * d + r = N ∧ q ≤ N ∧ (∃ ms : Array Value, Blk wr g 92 ms ∧ IsMat ms (stpN (8 * d))) ∧ Below w.heap.size w wr) (fun _ t _ => (intOf t).toNat)
  case atStart => exact ⟨N, 1, 0, rfl, rfl, by omega, Nat.le_refl _, ⟨cs, hA, HMAT.out⟩, hb2⟩
  case round =>
    obtain ⟨q, d, r, rfl, rfl, hq, hqn, ⟨ms, hms, hmat⟩, hbr⟩ := hrel
    have HM := Lib.hid hmat; clear hmat
    have HQ := Lib.hid hq; clear hq
    have hx := stpN_lt (8 * r) s hs
    by_cases h0 : 0 < q
    · have HI := Lib.hid (show (Try.prog.info? 92).map (·.size) = some ms.size by rw [HM.out.1]; exact HMI.out)
      by_cases ho : q % 2 = 1
      · have hx2 : stpN (8 * d) (stpN (8 * r) s) = stpN (8 * (r + d)) s := by rw [← stpN_add, Nat.mul_add, Nat.add_comm]
        have HX2 := Lib.hid hx2; clear hx2
        have hhalf : q / 2 * (d + d) + (r + d) = N := by
          have e : q = 2 * (q / 2) + 1 := by omega
          have h := HQ.out
          rw [e, Nat.add_mul, Nat.mul_assoc, Nat.one_mul] at h
          rw [Nat.mul_add]
          generalize q / 2 * d = z at h ⊢
          omega
        have ht : (bits BinOp.and IntKind.i64 (q : Int) 1 == 1) = true := by rw [and_walk_i q (by omega), ho]; rfl
        have HH := Lib.hid hhalf; clear hhalf
        go_wp2_with (first | (go_at_call 61; refine (times_any _ g ms (stpN (8 * d)) _ hx hms HM.out (Lin.stpN _)).mono ?_; rintro e w' ⟨rfl, rfl⟩) | (go_at_call 62; refine (twice_any _ g ms (stpN (8 * d)) hms HM.out (Lin.stpN _)).mono ?_; rintro e w4 ⟨cs', rfl, hm', hb4⟩; have HM' := Lib.hid hm'; clear hm') | (refine wpList_store_row rfl 92 _ _ rfl g cs' rfl rfl 92 ms (hms.below hb4 hms.lt) (by rw [HM'.out.1]; exact HMI.out) (by rw [HM.out.1, HM'.out.1]) HM'.out.one ?_))
        refine ⟨⟨q / 2, d + d, r + d, by go_num, by rw [HX2.out], HH.out, by omega, ⟨cs', blk_setRow (hms.below hb4 hms.lt) cs', mat_twice HM'.out⟩, ?_⟩, by simp [intOf]; omega⟩
        exact (hbr.trans (hb4.mono (by have := hms.lt; have := hbr.size; omega))).trans ⟨rfl, rfl, rfl, by simp, fun i hi => setRow_other w4 g i cs' (by omega)⟩
      · have ht : (bits BinOp.and IntKind.i64 (q : Int) 1 == 1) = false := by rw [and_walk_i q (by omega)]; simp; omega
        have hhalf : q / 2 * (d + d) + r = N := by
          have e : q = 2 * (q / 2) := by omega
          have h := HQ.out
          rw [e, Nat.mul_assoc] at h
          rw [Nat.mul_add]
          generalize q / 2 * d = z at h ⊢
          omega
        have HH := Lib.hid hhalf; clear hhalf
        go_wp2_with (first | (go_at_call 62; refine (twice_any _ g ms (stpN (8 * d)) hms HM.out (Lin.stpN _)).mono ?_; rintro e w4 ⟨cs', rfl, hm', hb4⟩; have HM' := Lib.hid hm'; clear hm') | (refine wpList_store_row rfl 92 _ _ rfl g cs' rfl rfl 92 ms (hms.below hb4 hms.lt) (by rw [HM'.out.1]; exact HMI.out) (by rw [HM.out.1, HM'.out.1]) HM'.out.one ?_))
        refine ⟨⟨q / 2, d + d, r, by go_num, rfl, HH.out, by omega, ⟨cs', blk_setRow (hms.below hb4 hms.lt) cs', mat_twice HM'.out⟩, ?_⟩, by simp [intOf]; omega⟩
        exact (hbr.trans (hb4.mono (by have := hms.lt; have := hbr.size; omega))).trans ⟨rfl, rfl, rfl, by simp, fun i hi => setRow_other w4 g i cs' (by omega)⟩
    · obtain rfl : q = 0 := by omega
      have hr : r = N := by have := HQ.out; omega
      have HR := Lib.hid hr; clear hr
      go_wp2_with fail
      go_ret
      rw [← HR.out]
      exact ⟨rfl, hbr⟩
theorem join_any (w : World) (a b : Nat) (n : Int) (ha : a < 4294967296) (hb : b < 4294967296) :
    Calls Try.prog 44 #[.int .u32 a, .int .u32 b, .int .i64 n] w fun e w' => e = .returned (.int .u32 (joinS a b n : Nat)) ∧ Below w.heap.size w w' := by
  have hx := u32_xor_nat (stpN (8 * noughts n) a) b (stpN_lt _ _ ha) hb
  rw [show stpN (8 * noughts n) a ^^^ b = joinS a b n from rfl] at hx
  have HX := Lib.hid hx; clear hx
  go_enter Try.func44, Try.ntmps44
  go_wp2_with (go_at_call 43; refine (noughts_any _ a n ha).mono ?_; rintro e w' ⟨rfl, hb1⟩)
  go_ret
  rw [← HX.out]
  exact ⟨rfl, hb1⟩
end Go.Proofs.Ythdmajhhioiaoaa
