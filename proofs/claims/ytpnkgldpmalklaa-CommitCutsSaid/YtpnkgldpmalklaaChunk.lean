/- slices.Chunk of bytes, and commit.Cut: a text's sectors. -/
import Derived.RangeFuncFrom
import Derived.RangeFuncNested
import Derived.RangeFuncBound
import Derived.RangeFuncCalls
import Derived.RangeFuncLeaves
import Derived.RangeFuncBox
import Derived.Shelf.Abstract
import Derived.Shelf.RegionOpen
import Derived.WalkKit
import Derived.OwnWalkIn
import Derived.TacticsInMore
import Derived.LoopNIn
import Derived.LoopIn
import Derived.Maps.AppendAt
import Derived.Test.YtpnkgldpmalklaaCommit
import Derived.Test.YtpnkgldpmalklaaGrow
import Derived.Test.YtpnkgldpmalklaaSameStr
set_option linter.unusedVariables false
set_option linter.unusedSimpArgs false
namespace Go.Proofs.Ytpnkgldpmalklaa
open Go Go.RowKit Go.Shelf
open Sw
attribute [local go_sem] Oper.semAt_some
theorem blk_ownC {W W' : World} {row : Option Nat} {g : Nat} {t : TypeId} {cs : Array Value} (h : Blk W g t cs) (hg : W.grownBy W' row) (hr : ∀ r, row = some r → ∃ o : Obj, W.heap[r]? = some o ∧ o.isCells = false) : Blk W' g t cs :=
  h.grown hg (fun e => by
    obtain ⟨o, ho, hc⟩ := hr g e.symm
    unfold Blk at h
    rw [h] at ho
    cases ho
    cases hc)
/-- below n₀ nothing has turned but a block -/
structure BxC (n₀ tb : Nat) (A B : World) : Prop where
  os : B.os = A.os
  tape : B.tape = A.tape
  output : B.output = A.output
  size : A.heap.size ≤ B.heap.size
  block : ∀ k, k < n₀ → k ≠ tb → B.heap[k]? = A.heap[k]?
theorem BxC.of {n₀ : Nat} (tb : Nat) {A B : World} (h : Below n₀ A B) : BxC n₀ tb A B := ⟨h.os, h.tape, h.output, h.size, fun k hk _ => h.block k hk⟩
theorem BxC.trans {n₀ tb : Nat} {A B C : World} (h : BxC n₀ tb A B) (k : BxC n₀ tb B C) : BxC n₀ tb A C :=
  ⟨k.os.trans h.os, k.tape.trans h.tape, k.output.trans h.output, Nat.le_trans h.size k.size, fun i hi hn => (k.block i hi hn).trans (h.block i hi hn)⟩
theorem BxC.cell {n₀ tb : Nat} {A B : World} (h : BxC n₀ tb A B) {p : Addr} (hp : p.block < n₀) (hn : p.block ≠ tb) : B.cell? p = A.cell? p := World.cell?_of_block (w := A) (h.block p.block hp hn)
theorem bxC_b {n₀ tb : Nat} {w : World} (hn : n₀ ≤ w.heap.size) (W : World) (l : Nat) (o o' : Obj) (hl : w.heap.size ≤ l) (h : W.heap[l]? = some o) (h1 : o.isCells = false) (h2 : o.isWalk = false) : BxC n₀ tb W (W.putObj l o') := .of tb (belowK_b hn W l o o' hl h h1 h2)
abbrev Chk (K : Nat) := { x : Nat // x < K }
set_option maxRecDepth 100000 in
set_option maxHeartbeats 2000000 in
theorem chunk_any (w : World) (v : Value) (hv : v.oneCell' = true) :
    Calls Try.prog 76 #[v, .int .i64 512] w fun e w' => e = .returned (.func (.func 97) #[] #[.pointer (some ⟨w.heap.size, 0, none⟩), .pointer (some ⟨w.heap.size + 1, 0, none⟩)]) ∧ w' = (w.alloc (.cells #[v] 85)).alloc (.cells #[.int .i64 512] 3) := by
  go_enter Try.func76, Try.ntmps76
  go_wp2_with fail
  go_ret
  exact ⟨rfl, rfl⟩
set_option maxRecDepth 100000 in
set_option maxHeartbeats 4000000 in
theorem chunk_stops (n : Nat) (hn : 2 ≤ n) (tb bs bn g c K : Nat) (w : World) (hK : K ≤ 1000) (hc : 512 * K ≤ c) (hc2 : c ≤ 9223372036854775807)
    (hs : w.cell? ⟨bs, 0, none⟩ = some (.slice (some ⟨g, 0, none⟩) (512 * K) c)) (hi : w.cell? ⟨bn, 0, none⟩ = some (.int .i64 512)) (hbs : bs < w.heap.size) (hbn : bn < w.heap.size) (hts : bs ≠ tb) (htn : bn ≠ tb) :
    SeqStopsK Fence.wide n Try.prog 97 #[.pointer (some ⟨bs, 0, none⟩), .pointer (some ⟨bn, 0, none⟩)] (fun x : Chk K => #[.slice (some ⟨g, 512 * x.1, none⟩) 512 512]) (BxC w.heap.size tb) (fun xs => xs.map (·.1) = List.range K) (fun _ => True) K w := fun l J Jx W hW hJ hJx hY hJ0 => by
  have HJ := Lib.hid hJ; clear hJ hJx
  have HY := Lib.hid hY; clear hY
  have HS := Lib.hid (And.intro hs hi); clear hs hi
  refine callsIn_of_wp Try.func97 rfl trivial ?_ rfl
  simp only [Try.ntmps97, List.size_toArray, List.length_cons, List.length_nil, Nat.reduceAdd, Nat.reduceSub, Array.replicate_succ, Array.replicate_zero, List.push_toArray, List.append_toArray, List.nil_append, List.cons_append]
  gi_wp2
  gi_loopw [4] (fun i wr => ∃ (k : Nat) (pre : List (Chk K)), i = .int .i64 ((512 * k : Nat) : Int) ∧ k ≤ K ∧ pre.map (·.1) = List.range k ∧ J pre wr ∧ BxC w.heap.size tb w wr) (fun i _ => 512 * K - (intOf i).toNat)
  case atStart => exact ⟨0, [], rfl, Nat.zero_le _, rfl, hJ0, .of tb hW⟩
  case round =>
    obtain ⟨k, pre, rfl, hk, hpre, hJs, hB⟩ := hrel
    have r1 := (hB.cell (p := ⟨bs, 0, none⟩) hbs hts).trans HS.out.1
    have r2 := (hB.cell (p := ⟨bn, 0, none⟩) hbn htn).trans HS.out.2
    have hpl : pre.length = k := by have := congrArg List.length hpre; simpa using this
    by_cases hlt : k < K
    · have hmin : min (512 : Int) ((512 * K - 512 * k : Nat) : Int) = 512 := by omega
      have htn512 : (512 * (k : Int) + 512).toNat - 512 * k = 512 := by omega
      have i0 : (0 : Int) ≤ 512 * (k : Int) := by omega
      have i1 : 512 * (k : Int) < 512 * (K : Int) := by omega
      have hJ2 := HJ.out pre wr wr.drew none hJs (grown_drew (grown_refl wr none)) (fun r h => by cases h)
      have HB := Lib.hid hB; clear hB
      have HP := Lib.hid (And.intro hpre hpl); clear hpre hpl hJs
      gi_wp2
      gi_region
      obtain ⟨fn, tmps, assign, body, hy, hR⟩ := HY.out pre ⟨k, hlt⟩ wr.drew hJ2 (by rw [HP.out.2]; exact hlt)
      gi_wp2
      refine ⟨fun _ => by omega, hR.mono ?_⟩
      rintro e W3 (⟨rfl, hJ3, hk3⟩ | ⟨rfl, hJx3⟩)
      · have hB3 := (HB.out.trans (BxC.of tb ((Below.refl _ wr).drew))).trans hk3
        have q1 := (hB3.cell (p := ⟨bs, 0, none⟩) hbs hts).trans HS.out.1
        have q2 := (hB3.cell (p := ⟨bn, 0, none⟩) hbn htn).trans HS.out.2
        have hpre2 : (pre ++ [(⟨k, hlt⟩ : Chk K)]).map (·.1) = List.range (k + 1) := by rw [List.map_append, HP.out.1, List.range_succ]; rfl
        have HF := Lib.hid (And.intro hpre2 (And.intro hJ3 hB3)); clear hpre2 hJ3 hB3 hk3 hJ2
        gi_wp2
        go_roundw
        case rel => exact ⟨k + 1, pre ++ [⟨k, hlt⟩], by congr 1, hlt, HF.out.1, HF.out.2.1, HF.out.2.2⟩
        case measure => simp only [intOf]; omega
      · gi_wp2
        refine bodyPost_ret (results_none rfl _ _ _) rfl ?_
        exact ⟨⟨_, rfl⟩, .inr ⟨_, trivial, hJx3⟩⟩
    · obtain rfl : k = K := by omega
      gi_wp2
      go_end0
      exact ⟨⟨_, rfl⟩, .inl ⟨pre, hpre, hJs⟩⟩
end Go.Proofs.Ytpnkgldpmalklaa
