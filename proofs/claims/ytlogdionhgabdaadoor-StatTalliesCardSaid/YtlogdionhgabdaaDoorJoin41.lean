/- Several texts, joined for the limit of sixty files; each one opens with its own comment. -/
import Derived.RangeFuncFrom
import Derived.RangeFuncNested
import Derived.RangeFuncBound
import Derived.RangeFuncCalls
import Derived.RangeFuncLeaves
import Derived.Shelf.Abstract
import Derived.Shelf.RegionOpen
import Derived.WalkKit
import Derived.OwnWalkIn
import Derived.TacticsInMore
import Derived.LoopNIn
import Derived.LoopIn
import Derived.Lib.IndexLaws
import Derived.Test.YtlogdionhgabdaaDoorJoin25
import Derived.Test.YtlogdionhgabdaaDoorJoin39
import Derived.Test.YtlogdionhgabdaaDoorJoin40
/- Contracts of strings.SplitSeq at a slash, and of its iterator. -/
set_option linter.unusedVariables false
set_option linter.unusedSimpArgs false
namespace Sw
open Go Go.RowKit
theorem slash_split {l : List UInt8} {i : Nat} (h : Lib.indexByte l 47 = i) : i < l.length ∧ l = l.take i ++ 47 :: l.drop (i + 1) ∧ (47 : UInt8) ∉ l.take i := by
  obtain ⟨h1, h2⟩ := Lib.indexByte_some h
  have hlt : i < l.length := (List.getElem?_eq_some_iff.1 h1).1
  have he : l[i] = 47 := (List.getElem?_eq_some_iff.1 h1).2
  refine ⟨hlt, ?_, ?_⟩
  · conv => lhs; rw [← List.take_append_drop i l]
    rw [List.drop_eq_getElem_cons hlt, he]
  · intro hm
    obtain ⟨k, hk, hke⟩ := List.getElem_of_mem hm
    rw [List.length_take] at hk
    rw [List.getElem_take] at hke
    exact h2 k (by omega) (by rw [List.getElem?_eq_getElem (by omega), hke])
theorem slash_none {l : List UInt8} (h : Lib.indexByte l 47 = -1) : (47 : UInt8) ∉ l := by
  intro hm
  obtain ⟨k, hk, hke⟩ := List.getElem_of_mem hm
  exact Lib.indexByte_none h k (by rw [List.getElem?_eq_getElem hk, hke])
/-- what stands between slashes, as texts -/
def spS (s : ByteArray) : List ByteArray := (spL s.data.toList).map mkB
theorem spL_len : ∀ l : List UInt8, (spL l).length ≤ l.length + 1
  | [] => by simp [spL]
  | b :: l => by
    have := spL_len l
    rw [spL]
    split
    · simp; omega
    · have h := congrArg List.length (spL_head l)
      simp at h ⊢
      omega
theorem spS_len (s : ByteArray) : (spS s).length ≤ s.size + 1 := by
  unfold spS
  rw [List.length_map]
  have := spL_len s.data.toList
  have h : s.data.toList.length = s.size := by simp
  omega
theorem ext_take (X : ByteArray) (n : Nat) : (X.extract 0 n).data.toList = X.data.toList.take n := by
  rw [ByteArray.data_extract, Array.toList_extract, List.extract_eq_take_drop]
  simp
theorem spS_hit {X : ByteArray} {i : Nat} (h : Lib.indexByte X.data.toList 47 = i) : i < X.size ∧ spS X = X.extract 0 i :: spS (X.extract (i + 1) X.size) := by
  obtain ⟨h1, h2, h3⟩ := slash_split h
  have hs : X.data.toList.length = X.size := by simp
  refine ⟨by omega, ?_⟩
  unfold spS
  rw [ext_drop, ← mkB_data (X.extract 0 i), ext_take]
  conv => lhs; rw [h2]
  rw [spL_app _ _ h3]
  rfl
theorem spS_miss {X : ByteArray} (h : Lib.indexByte X.data.toList 47 = -1) : spS X = [X] := by
  unfold spS
  rw [spL_none _ (slash_none h), List.map_singleton, mkB_data]
theorem spS_ne (X : ByteArray) : spS X ≠ [] := by
  unfold spS
  intro h
  exact spL_ne X.data.toList (List.map_eq_nil_iff.1 h)
/-- a text of at most so many bytes -/
abbrev Pc (M : Nat) := { x : ByteArray // x.size ≤ M }
/-- three blocks lie as they lay -/
structure Kp3 (a b c : Nat) (W W' : World) : Prop where
  size : W.heap.size ≤ W'.heap.size
  block : ∀ k, k = a ∨ k = b ∨ k = c → W'.heap[k]? = W.heap[k]?
theorem Kp3.trans {a b c : Nat} {A B C : World} (h : Kp3 a b c A B) (k : Kp3 a b c B C) : Kp3 a b c A C := ⟨Nat.le_trans h.size k.size, fun i hi => (k.block i hi).trans (h.block i hi)⟩
theorem Kp3.turn {a b c : Nat} {w : World} (ha : a < w.heap.size) (hb : b < w.heap.size) (hc : c < w.heap.size) (W : World) (l : Nat) (o o' : Obj) (hl : w.heap.size ≤ l) : Kp3 a b c W (W.putObj l o') :=
  ⟨by simp, fun k hk => World.putObj_heap_other (by rcases hk with rfl | rfl | rfl <;> omega)⟩
end Sw
namespace Go.Proofs.YtlogdionhgabdaaDoor
open Go Go.RowKit Go.Shelf
open Sw
attribute [local go_sem] Oper.semAt_some
set_option maxRecDepth 100000 in
theorem splitSeq_any (w : World) (s sep : ByteArray) :
    Calls Tryd.prog 52 #[.string s, .string sep, .int .i64 0] w fun e w' => e = .returned (.func (.func 57) #[] #[.pointer (some ⟨w.heap.size + 1, 0, none⟩), .pointer (some ⟨w.heap.size, 0, none⟩), .pointer (some ⟨w.heap.size + 1 + 1, 0, none⟩)]) ∧ w' = ((w.alloc (.cells #[.string s] 9)).alloc (.cells #[.string sep] 9)).alloc (.cells #[.int .i64 0] 3) := by
  go_enter Tryd.func52, Tryd.ntmps52
  go_wp2_with fail
  go_ret
  exact ⟨rfl, rfl⟩
set_option maxRecDepth 100000 in
theorem SplitSeq_any (w : World) (s sep : ByteArray) :
    Calls Tryd.prog 44 #[.string s, .string sep] w fun e w' => e = .returned (.func (.func 57) #[] #[.pointer (some ⟨w.heap.size + 1, 0, none⟩), .pointer (some ⟨w.heap.size, 0, none⟩), .pointer (some ⟨w.heap.size + 1 + 1, 0, none⟩)]) ∧ w' = ((w.alloc (.cells #[.string s] 9)).alloc (.cells #[.string sep] 9)).alloc (.cells #[.int .i64 0] 3) := by
  have HS := Lib.hid (splitSeq_any w s sep)
  go_enter Tryd.func44, Tryd.ntmps44
  go_wp2_with fail
  refine HS.out.mono ?_
  rintro e w1 ⟨rfl, rfl⟩
  go_wp2_with fail
  go_ret
  exact ⟨rfl, rfl⟩
set_option maxRecDepth 100000 in
set_option maxHeartbeats 4000000 in
theorem splitSeq_owns (n : Nat) (hn : 2 ≤ n) (bp bs bv : Nat) (s : ByteArray) (w : World) (hsz : s.size ≤ 1000000) (hp : Blk w bp 9 #[.string ⟨#[47]⟩]) (hs : Blk w bs 9 #[.string s]) (hv : Blk w bv 3 #[.int .i64 0]) (hne : bp ≠ bs) :
    SeqOwns (fun k => k = bs) Fence.wide n Tryd.prog 57 #[.pointer (some ⟨bp, 0, none⟩), .pointer (some ⟨bs, 0, none⟩), .pointer (some ⟨bv, 0, none⟩)] (fun x : Pc s.size => #[.string x.1]) (Kp3 bp bs bv) (fun xs => xs.map (·.1) = spS s) (fun pre => ∃ r, spS s = pre.map (·.1) ++ r) (s.size + 1) w := fun l J Jx W hW hJ hJx hY hJ0 => by
  have hPW := hp.below hW hp.lt
  have hSW := hs.below hW hs.lt
  have hVW := hv.below hW hv.lt
  have HI := Lib.hid (Tryd.strings_Index_one)
  have hvs : bv ≠ bs := fun e => Blk.other hv hs (by decide) e
  have HY := Lib.hid hY; clear hY
  have HJ := Lib.hid hJ; clear hJ hJx
  have c1 := hPW.cell 0
  simp at c1
  refine callsIn_of_wp Tryd.func57 rfl trivial ?_ rfl
  simp only [Tryd.ntmps57, List.size_toArray, List.length_cons, List.length_nil, Nat.reduceAdd, Nat.reduceSub, Array.replicate_succ, Array.replicate_zero, List.push_toArray, List.append_toArray, List.nil_append, List.cons_append]
  gi_wp2
  gi_loopw [7, 8] (fun _ _ wr => ∃ (X : ByteArray) (pre : List (Pc s.size)), X.size ≤ s.size ∧ Blk wr bp 9 #[.string ⟨#[47]⟩] ∧ Blk wr bs 9 #[.string X] ∧ Blk wr bv 3 #[.int .i64 0] ∧ pre.map (·.1) ++ spS X = spS s ∧ J pre wr ∧ W.heap.size ≤ wr.heap.size) (fun _ _ wr => strSz ((wr.cell? ⟨bs, 0, none⟩).getD undef))
  case atStart => exact ⟨s, [], Nat.le_refl _, hPW, hSW, hVW, rfl, hJ0, Nat.le_refl _⟩
  case round =>
    obtain ⟨X, pre, hX, hP, hS, hV, hpre, hJs, hWs⟩ := hrel
    have r1 := hP.cell 0
    have r2 := hS.cell 0
    have r3 := hV.cell 0
    have r4 := hS.frozen 0
    simp at r1 r2 r3
    have hix := HI.out X 47 wr
    have hlen := congrArg List.length hpre
    rw [List.length_append, List.length_map] at hlen
    have htot := spS_len s
    have hpos : 0 < (spS X).length := List.length_pos_iff.2 (spS_ne X)
    have hge := Lib.indexByte_ge X.data.toList 47
    obtain ⟨j, hj⟩ : ∃ j, Lib.indexByte X.data.toList 47 = j := ⟨_, rfl⟩
    rw [hj] at hix hge
    have HIX := Lib.hid hix; clear hix
    by_cases h0 : j < 0
    · obtain rfl : j = -1 := by omega
      have hmiss := spS_miss hj
      rw [hmiss] at hpre
      obtain ⟨fn, tmps, assign, body, hy, hR⟩ := HY.out pre ⟨X, hX⟩ wr hJs (by omega)
      have HP := Lib.hid hpre; clear hpre hmiss hlen hpos
      gi_wp2
      refine ⟨trivial, fun _ => by omega, ?_⟩
      refine (callsIn_wide.2 HIX.out).mono ?_
      rintro e W1 ⟨rfl, rfl⟩
      gi_wp2
      refine ⟨fun _ => by omega, hR.mono ?_⟩
      rintro e W3 (⟨rfl, hJ3, hk3⟩ | ⟨rfl, hJx3⟩)
      · gi_wp2
        go_end0
        refine ⟨⟨_, rfl⟩, .inl ⟨_, ?_, hJ3⟩⟩
        rw [List.map_append]
        exact HP.out
      · gi_wp2
        go_end0
        refine ⟨⟨_, rfl⟩, .inr ⟨_, ⟨[], ?_⟩, hJx3⟩⟩
        rw [List.map_append, List.append_nil]
        exact HP.out.symm
    · obtain ⟨i, rfl⟩ := Int.eq_ofNat_of_zero_le (show 0 ≤ j by omega)
      obtain ⟨hiX, hhit⟩ := spS_hit hj
      rw [hhit] at hpre
      have hz1 : (X.extract 0 i).size ≤ s.size := by rw [ByteArray.size_extract]; omega
      have hz2 : (X.extract (i + 1) X.size).size ≤ s.size := by rw [ByteArray.size_extract]; omega
      have hz3 : (X.extract (i + 1) X.size).size < X.size := by rw [ByteArray.size_extract]; omega
      obtain ⟨fn, tmps, assign, body, hy, hR⟩ := HY.out pre ⟨X.extract 0 i, hz1⟩ wr hJs (by omega)
      have HP := Lib.hid hpre; clear hpre hhit hlen hpos
      gi_wp2
      refine ⟨trivial, fun _ => by omega, ?_⟩
      refine (callsIn_wide.2 HIX.out).mono ?_
      rintro e W1 ⟨rfl, rfl⟩
      gi_wp2
      refine ⟨fun _ => by omega, hR.mono ?_⟩
      rintro e W3 (⟨rfl, hJ3, hk3⟩ | ⟨rfl, hJx3⟩)
      · have hP3 : Blk W3 bp 9 #[.string ⟨#[47]⟩] := (hk3.block bp (.inl rfl)).trans hP
        have hS3 : Blk W3 bs 9 #[.string X] := (hk3.block bs (.inr (.inl rfl))).trans hS
        have hV3 : Blk W3 bv 3 #[.int .i64 0] := (hk3.block bv (.inr (.inr rfl))).trans hV
        have q1 := hP3.cell 0
        have q2 := hS3.cell 0
        have q4 := hS3.frozen 0
        simp at q1 q2
        have HH := Lib.hid (And.intro hP3 (And.intro hS3 (And.intro hV3 hk3.size))); clear hP3 hS3 hV3 hk3
        have HJ3 := Lib.hid hJ3; clear hJ3
        gi_wp2
        go_roundw
        case rel =>
          refine ⟨_, pre ++ [⟨X.extract 0 i, hz1⟩], hz2, HH.out.1.far (p := ⟨bs, 0, none⟩) hne _, HH.out.2.1.put 0 _, HH.out.2.2.1.far (p := ⟨bs, 0, none⟩) hvs _, ?_, ?_, ?_⟩
          · rw [List.map_append, List.append_assoc]
            exact HP.out
          · exact HJ.out _ W3 _ (some bs) HJ3.out (grown_put (grown_refl _ _) 0 _) (fun r e => .inl (by cases e; rfl))
          · have := HH.out.2.2.2
            simp [World.setCell]
            omega
        case measure =>
          have e1 := (HH.out.2.1.put 0 (.string (X.extract (i + 1) X.size))).cell 0
          have e2 := hS.cell 0
          simp at e1 e2
          rw [e1, e2]
          exact hz3
      · gi_wp2
        refine bodyPost_ret (results_none rfl _ _ _) rfl ?_
        refine ⟨⟨_, rfl⟩, .inr ⟨_, ⟨spS (X.extract (i + 1) X.size), ?_⟩, hJx3⟩⟩
        rw [List.map_append, List.append_assoc]
        exact HP.out.symm
end Go.Proofs.YtlogdionhgabdaaDoor
