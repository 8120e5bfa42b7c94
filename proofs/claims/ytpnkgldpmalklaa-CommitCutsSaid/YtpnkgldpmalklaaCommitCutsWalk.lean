/- The walk of CommitCuts. -/
import Derived.Test.YtpnkgldpmalklaaLift
import Derived.Test.YtpnkgldpmalklaaCut
import Derived.Test.YtpnkgldpmalklaaCommitRef
import Derived.Test.YtpnkgldpmalklaaCommitLives
set_option linter.unusedVariables false
set_option linter.unusedSimpArgs false
namespace Go.Proofs.Ytpnkgldpmalklaa
open Go.ChangeShapes Go.WideShapes Go.ChangeAt Go.RowKit
open Go.ChangeMaps (open_string shut_string)
open Sw
set_option maxRecDepth 100000 in
theorem cSectors_all (n : Int) (w : World) :
    Calls Try.prog 51 #[.int .i64 n] w fun e w' => e = .returned (.int .i64 ((max 0 (min n 1099511627776) + 511) / 512)) ∧ w = w' := by
  obtain ⟨m, hm⟩ : ∃ m, max 0 (min n 1099511627776) = m := ⟨_, rfl⟩
  have h0 : 0 ≤ m ∧ m ≤ 1099511627776 := by omega
  rw [hm]
  obtain ⟨h1, h2⟩ := h0
  go_enter Try.func51, Try.ntmps51
  go_wp2
  go_ret
  exact ⟨ret_i (by omega), rfl⟩
theorem chunk_ext (p : List UInt8) (k : Nat) : (⟨p.toArray⟩ : ByteArray).extract (512 * k) (512 * k + 512) = chunkB p k := by
  apply ByteArray.ext
  apply Array.ext'
  rw [ByteArray.data_extract, Array.toList_extract, List.extract_eq_take_drop]
  show List.take (512 * k + 512 - 512 * k) (List.drop (512 * k) p) = _
  rw [Nat.add_sub_cancel_left]; rfl
theorem chunks_snoc (p : List UInt8) (k : Nat) : (chunksL p (k + 1)).map Value.string = (chunksL p k).map Value.string ++ [Value.string (chunkB p k)] := by
  unfold chunksL; rw [List.range_succ]; simp
set_option maxRecDepth 100000 in
set_option maxHeartbeats 4000000 in
theorem cuts_walk (s : ByteArray) (n : Int) (w : World) (hs : s.size ≤ maxLen) (hn0 : -9223372036854775808 ≤ n) (hn1 : n ≤ 9223372036854775807) :
    Calls Try.prog 10 #[.string s, .int .i64 n] w fun e w' => e = .returned (.bool true) ∧ Below w.heap.size w w' := by
  obtain ⟨N, hN⟩ : ∃ N : Nat, min (s.size : Int) 2000 = (N : Int) := ⟨(min (s.size : Int) 2000).toNat, by omega⟩
  have hNs : N ≤ s.size := by omega
  have hN2 : N ≤ 2000 := by omega
  unfold maxLen at hs
  go_enter Try.func10, Try.ntmps10
  go_wp2_with fail
  have hsz : (s.extract 0 N).size ≤ 2000 := by
    simp [ByteArray.size_extract]; omega
  generalize s.extract 0 N = s' at *
  clear hN hNs hs
  have hrp := fun W => rPad_any s' W (by omega)
  have hcp := fun W => cPad_any s' W (by omega)
  obtain ⟨K, hK⟩ : ∃ K, K = (s'.size + 511) / 512 := ⟨_, rfl⟩
  have hct := fun W => cut_any s' W hsz K hK
  have hsl : s'.data.toList.length = s'.size := by rw [Array.length_toList]; rfl
  have hpl : (padL s'.data.toList).length = 512 * K := by
    unfold padL
    rw [List.length_append, List.length_replicate, hsl]; omega
  have hKb : K ≤ 4 := by omega
  obtain ⟨p, hp⟩ : ∃ p, p = padL s'.data.toList := ⟨_, rfl⟩
  rw [← hp] at hrp hcp hct hpl
  clear hp hK hsl
  have hpz : ({ data := p.toArray } : ByteArray).size = 512 * K := by show p.toArray.size = _; simp [hpl]
  have HC := Lib.hid (And.intro hrp (And.intro hcp hct)); clear hrp hcp hct
  refine (HC.out.1 _).mono ?_
  rintro e w1 ⟨rfl, rfl⟩
  go_wp2_with fail
  go_loopw [6, 7] (fun v i wr => ∃ k : Nat, k ≤ K ∧ i = .int .i64 ((512 * k : Nat) : Int) ∧ wr.ownsRow w.heap.size 9 1 v k ((chunksL p k).map Value.string) ∧ Below w.heap.size w wr) (fun _ i _ => 512 * K - (intOf i).toNat)
  case atStart => exact ⟨0, Nat.zero_le _, rfl, World.ownsRow_nil _ _ _ _, Below.refl _ _⟩
  case round =>
    obtain ⟨k, hk, rfl, hrow, hB⟩ := hrel
    by_cases hlt : k < K
    · have hext := chunk_ext p k
      have hsn := chunks_snoc p k
      have HE := Lib.hid (And.intro hsn hpz); clear hsn
      have i1 : 512 * (k : Int) + 512 ≤ 512 * (K : Int) := by omega
      go_wp2_with (refine wpList_app rfl _ _ 88 rfl w.heap.size 9 (.string ⟨#[]⟩) 1 16 Try.underlying88 info_str rfl (by omega) _ k _ (by simp [Act.eval, Act.put]) (hrow.alloc _) wr.heap.size 1 _ _ (by simp [Act.eval, Act.put]) (Blk.new _ _ _) rfl (by simp [Value.oneCell']) (by omega) (by omega) (by have := hB.size; simp; omega) _ rfl ?_; intro g2 cap2 w5 ho2 hg2 hat2 hlt2)
      have hB5 := (hB.alloc hB.size _).grown hg2 (by have := hB.size; simp; omega) (fun q hq => (hrow.lt q hq).1)
      refine ⟨⟨k + 1, by omega, by congr 1, by rw [HE.out.1]; exact ho2, hB5⟩, by simp only [intOf]; omega⟩
    · obtain rfl : k = K := by omega
      have hwant : SlV wr 1 sE _ (chunksL p k) := SlV.of_own (by rw [flat_sE]; exact hrow) (fun _ => rfl) (by omega)
      have HW := Lib.hid (And.intro hwant hB); clear hwant hB hrow
      obtain ⟨m, hm⟩ : ∃ m : Nat, max 0 (min n 1099511627776) = (m : Int) := ⟨(max 0 (min n 1099511627776)).toNat, by omega⟩
      have hmb : m ≤ 1099511627776 := by omega
      have hsec := fun W => cSectors_all n W
      rw [hm] at hsec
      have HS := Lib.hid hsec; clear hsec
      have hbp : ((({ data := p.toArray } : ByteArray)).toList == ({ data := p.toArray } : ByteArray).toList) = true := by simp
      have hdone : ∀ (q : Int), q = ((m : Int) + 511) / 512 → ((((m : Int) + 511) / 512) == q) = true := fun q hq => by rw [hq]; simp
      by_cases hr : 0 < (m : Int) % 512
      · have hq := hdone ((m : Int) / 512 + 1) (by omega)
        clear hdone
        have HQ := Lib.hid hq; clear hq
        go_wp2_with fail
        refine (HC.out.2.1 _).mono ?_
        rintro e y1 ⟨rfl, h1⟩
        go_wp2_with fail
        refine (HC.out.2.2 _).mono ?_
        rintro e y2 ⟨v2, rfl, hv2, h2⟩
        have hW2 := (HW.out.1.below h1 (Nat.le_refl _)).below h2 (Nat.le_refl _)
        have z0 := HW.out.2.size
        have z1 := h1.size
        have z2 := h2.size
        have hB2 := (HW.out.2.trans (h1.mono z0)).trans (h2.mono (Nat.le_trans z0 z1))
        have HB2 := Lib.hid (And.intro hB2 (And.intro hv2 hW2)); clear hB2 hv2 hW2 h1 h2
        go_wp2_with fail
        refine (same_any _ _ _ _ _ HB2.out.2.1 HB2.out.2.2).mono ?_
        rintro e y3 ⟨rfl, q3, rfl⟩
        rw [decide_eq_true (rfl : chunksL p k = chunksL p k)]
        have hq := HQ.out
        go_wp2_with (first | (go_at_call 51; refine (HS.out _).mono ?_; rintro e y4 ⟨rfl, rfl⟩) | (go_at_call 46; refine (commit_lives _).mono ?_; rintro e y5 ⟨rfl, h5⟩))
        go_ret
        exact ⟨rfl, (below_drewN HB2.out.1 q3).trans (h5.mono (by have := HB2.out.1.size; simpa using this))⟩
      · have hq := hdone ((m : Int) / 512) (by omega)
        clear hdone
        have HQ := Lib.hid hq; clear hq
        go_wp2_with fail
        refine (HC.out.2.1 _).mono ?_
        rintro e y1 ⟨rfl, h1⟩
        go_wp2_with fail
        refine (HC.out.2.2 _).mono ?_
        rintro e y2 ⟨v2, rfl, hv2, h2⟩
        have hW2 := (HW.out.1.below h1 (Nat.le_refl _)).below h2 (Nat.le_refl _)
        have z0 := HW.out.2.size
        have z1 := h1.size
        have z2 := h2.size
        have hB2 := (HW.out.2.trans (h1.mono z0)).trans (h2.mono (Nat.le_trans z0 z1))
        have HB2 := Lib.hid (And.intro hB2 (And.intro hv2 hW2)); clear hB2 hv2 hW2 h1 h2
        go_wp2_with fail
        refine (same_any _ _ _ _ _ HB2.out.2.1 HB2.out.2.2).mono ?_
        rintro e y3 ⟨rfl, q3, rfl⟩
        rw [decide_eq_true (rfl : chunksL p k = chunksL p k)]
        have hq := HQ.out
        go_wp2_with (first | (go_at_call 51; refine (HS.out _).mono ?_; rintro e y4 ⟨rfl, rfl⟩) | (go_at_call 46; refine (commit_lives _).mono ?_; rintro e y5 ⟨rfl, h5⟩))
        go_ret
        exact ⟨rfl, (below_drewN HB2.out.1 q3).trans (h5.mono (by have := HB2.out.1.size; simpa using this))⟩
set_option maxRecDepth 100000 in
theorem commitCuts_walk : Walks 10 Try.f10 := by
  intro H enc W base args ds ps hval hA hlt hsz
  rw [Try.params10] at hA hval
  obtain ⟨v0, v1, d0, d1, p0, p1, rfl, rfl, rfl, h0, h1⟩ := trodAll_two hA
  obtain ⟨s, rfl, rfl, rfl, hs⟩ := open_string Try.underlying9 (hval 0 9 v0 rfl rfl) h0
  obtain ⟨n, rfl, rfl, rfl, wn⟩ := open_int Try.underlying3 (hval 1 3 v1 rfl rfl) h1
  obtain ⟨n0, n1⟩ := bounds_i64 wn
  exact cuts_walk s n W hs n0 n1
end Go.Proofs.Ytpnkgldpmalklaa
