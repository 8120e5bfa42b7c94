/- The contract of ending.Find: a range over a function that returns out of its body. -/
import Derived.RangeFuncFrom
import Derived.RangeFuncNested
import Derived.RangeFuncBound
import Derived.RangeFuncCalls
import Derived.RangeFuncLeaves
import Derived.Shelf.Abstract
import Derived.Shelf.RegionOpen
import Derived.WalkKit
import Derived.OwnWalkIn
import Derived.TacticsInMore
import Derived.LoopNIn
import Derived.LoopIn
import Derived.Test.YthmlfeaoaanmoaaEndFindRef
set_option linter.unusedVariables false
set_option linter.unusedSimpArgs false
namespace Go.Proofs.Ythmlfeaoaanmoaa
open Go Go.RowKit Go.Shelf
open Sw
attribute [local go_sem] Oper.semAt_some
theorem blk_ownE {W W' : World} {row : Option Nat} {g : Nat} {t : TypeId} {cs : Array Value} (h : Blk W g t cs) (hg : W.grownBy W' row) (hr : ∀ r, row = some r → ∃ o : Obj, W.heap[r]? = some o ∧ o.isCells = false) : Blk W' g t cs :=
  h.grown hg (fun e => by
    obtain ⟨o, ho, hc⟩ := hr g e.symm
    unfold Blk at h
    rw [h] at ho
    cases ho
    cases hc)
/-- from k - 1 down -/
def downs : Nat → List Nat
  | 0 => []
  | k + 1 => k :: downs k
theorem downs_len (k : Nat) : (downs k).length = k := by
  induction k with
  | zero => rfl
  | succ k ih => rw [downs, List.length_cons, ih]
theorem findF_downs (s : ByteArray) (k : Nat) : findF s k = (downs k).find? fun i => okR (s.extract i s.size) := by
  induction k with
  | zero => rfl
  | succ k ih =>
    rw [findF, downs, List.find?_cons]
    cases h : okR (s.extract k s.size) with
    | true => rfl
    | false => simpa using ih
abbrev Plc (s : ByteArray) := { x : Nat // x + 22 ≤ s.size }
set_option maxRecDepth 100000 in
theorem endPlaces_any (w : World) (v : Value) (hv : v.oneCell' = true) :
    Calls Try.prog 73 #[v] w fun e w' => e = .returned (.func (.func 85) #[] #[.pointer (some ⟨w.heap.size, 0, none⟩)]) ∧ w' = w.alloc (.cells #[v] 9) := by
  go_enter Try.func73, Try.ntmps73
  go_wp2_with fail
  go_ret
  exact ⟨rfl, rfl⟩
set_option maxRecDepth 100000 in
set_option maxHeartbeats 4000000 in
theorem endPlaces_stops (n : Nat) (hn : 2 ≤ n) (bs : Nat) (s : ByteArray) (w : World) (hsz : s.size ≤ 400) (hs : w.cell? ⟨bs, 0, none⟩ = some (.string s)) (hbs : bs < w.heap.size) :
    SeqStopsK Fence.wide n Try.prog 85 #[.pointer (some ⟨bs, 0, none⟩)] (fun x : Plc s => #[.int .i64 (x.1 : Int)]) (Below w.heap.size) (fun xs => xs.map (·.1) = downs ((s.size : Int) - 21).toNat) (fun pre => ∃ r, downs ((s.size : Int) - 21).toNat = pre.map (·.1) ++ r) ((s.size : Int) - 21).toNat w := fun l J Jx W hW hJ hJx hY hJ0 => by
  have hS := (hW.cell (p := ⟨bs, 0, none⟩) hbs).trans hs
  have HY := Lib.hid hY; clear hY hJ hJx
  refine callsIn_of_wp Try.func85 rfl trivial ?_ rfl
  simp only [Try.ntmps85, List.size_toArray, List.length_cons, List.length_nil, Nat.reduceAdd, Nat.reduceSub, Array.replicate_succ, Array.replicate_zero, List.push_toArray, List.append_toArray, List.nil_append, List.cons_append]
  gi_wp2
  gi_loopw [3] (fun v wr => ∃ (a : Int) (pre : List (Plc s)), v = .int .i64 a ∧ -22 ≤ a ∧ a ≤ (s.size : Int) - 22 ∧ pre.map (·.1) ++ downs (a + 1).toNat = downs ((s.size : Int) - 21).toNat ∧ J pre wr ∧ Below w.heap.size w wr) (fun v _ => (intOf v + 23).toNat)
  case atStart => exact ⟨(s.size : Int) - 22, [], rfl, by omega, by omega, by rw [show (s.size : Int) - 22 + 1 = (s.size : Int) - 21 by omega]; rfl, hJ0, hW⟩
  case round =>
    obtain ⟨a, pre, rfl, ha1, ha2, hpre, hJs, hB⟩ := hrel
    have r1 := (hB.cell (p := ⟨bs, 0, none⟩) hbs).trans hs
    by_cases h0 : 0 ≤ a
    · obtain ⟨k, rfl⟩ := Int.eq_ofNat_of_zero_le h0
      have hk : k + 22 ≤ s.size := by omega
      have hfar : (s.size : Int) - k ≤ 65557 := by omega
      have hpre' : pre.map (·.1) ++ downs (k + 1) = downs ((s.size : Int) - 21).toNat := hpre
      have hlen : pre.length < ((s.size : Int) - 21).toNat := by
        have := congrArg List.length hpre'
        rw [List.length_append, List.length_map, downs_len, downs_len] at this; omega
      have hnx : (pre ++ [(⟨k, hk⟩ : Plc s)]).map (·.1) ++ downs k = downs ((s.size : Int) - 21).toNat := by
        rw [← hpre', List.map_append, List.append_assoc]; rfl
      obtain ⟨fn, tmps, assign, body, hy, hR⟩ := HY.out pre ⟨k, hk⟩ wr hJs hlen
      have HN := Lib.hid (And.intro hnx hB); clear hnx hB hpre hpre' hlen hJs
      gi_wp2
      refine ⟨fun _ => by omega, hR.mono ?_⟩
      rintro e W3 (⟨rfl, hJ3, hk3⟩ | ⟨rfl, hJx3⟩)
      · have HF := Lib.hid (And.intro hJ3 (HN.out.2.trans hk3)); clear hJ3 hk3
        have q1 := (HF.out.2.cell (p := ⟨bs, 0, none⟩) hbs).trans hs
        gi_wp2
        go_roundw
        case rel => exact ⟨(k : Int) - 1, pre ++ [⟨k, hk⟩], rfl, by omega, by omega, by rw [show ((k : Int) - 1 + 1).toNat = k by omega]; exact HN.out.1, HF.out.1, HF.out.2⟩
        case measure => simp only [intOf]; omega
      · gi_wp2
        refine bodyPost_ret (results_none rfl _ _ _) rfl ?_
        exact ⟨⟨_, rfl⟩, .inr ⟨_, ⟨_, HN.out.1.symm⟩, hJx3⟩⟩
    · have hp2 : pre.map (·.1) = downs ((s.size : Int) - 21).toNat := by
        rw [show (a + 1).toNat = 0 by omega] at hpre
        simpa [downs] using hpre
      have HP := Lib.hid hp2; clear hp2 hpre
      gi_wp2
      go_end0
      exact ⟨⟨_, rfl⟩, .inl ⟨pre, HP.out, hJs⟩⟩
end Go.Proofs.Ythmlfeaoaanmoaa
