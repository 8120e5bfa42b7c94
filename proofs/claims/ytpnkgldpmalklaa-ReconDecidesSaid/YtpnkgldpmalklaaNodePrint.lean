/- Contracts of node.Print and of the reference's Print. -/
import Derived.Test.YtpnkgldpmalklaaSumFeed
import Derived.Test.YtpnkgldpmalklaaSlMore
set_option linter.unusedVariables false
set_option linter.unusedSimpArgs false
namespace Sw
open Go
/-- a node -/
structure Nd where
  kind : Int
  mode : Int
  time : Int
  data : ByteArray
/-- a print -/
structure Pr where
  kind : Int
  mode : Int
  time : Int
  size : Int
  sum : Int
def Nd.c (n : Nd) : Array Value := #[.int .i64 n.kind, .int .i64 n.mode, .int .u32 n.time, .string n.data]
def Pr.c (p : Pr) : Array Value := #[.int .i64 p.kind, .int .i64 p.mode, .int .u32 p.time, .int .i64 p.size, .int .u32 p.sum]
def printN (n : Nd) : Pr := ⟨n.kind, n.mode, n.time, n.data.size, if n.kind = 1 then (ofS n.data.data.toList : Nat) else 0⟩
end Sw
namespace Go.Proofs.Ytpnkgldpmalklaa
open Go.RowKit
open Sw
theorem sumRef_any (w : World) (t : ByteArray) (ht : t.size ≤ maxLen) :
    Calls Try.prog 64 #[.string t] w fun e w' => e = .returned (.int .u32 (ofS t.data.toList : Nat)) ∧ Below w.heap.size w w' :=
  (refOf_any w t ht).mono fun e w' ⟨he, hw⟩ => ⟨he, hw ▸ Below.refl _ _⟩
set_option maxRecDepth 100000 in
set_option maxHeartbeats 4000000 in
theorem print_any (w : World) (n : Nd) (hm : n.data.size ≤ maxLen) :
    Calls Try.prog 63 #[.agg n.c] w fun e w' => e = .returned (.agg (printN n).c) ∧ Below w.heap.size w w' := by
  have HS := Lib.hid (fun W => sumOf_any W n.data hm)
  obtain ⟨kind, mode, time, data⟩ := n
  unfold printN Pr.c Nd.c
  simp only at HS hm ⊢
  unfold maxLen at hm
  by_cases hk : kind = 1
  · rw [if_pos hk]
    subst hk
    generalize ofS data.data.toList = sm at *
    go_enter Try.func63, Try.ntmps63
    go_wp2_with fail
    refine (HS.out _).mono ?_
    rintro e w1 ⟨rfl, hb1⟩
    have hP := (blk_trd w (.cells #[.int .i64 1, .int .i64 mode, .int .u32 time, .string data] 66) (.cells #[.int .i64 0, .int .i64 0, .int .u32 0, .int .i64 0, .int .u32 0] 64) #[.int .i64 1, .int .i64 mode, .int .u32 time, .int .i64 data.size, .int .u32 0] 64).below hb1 (by simp)
    have hR := (blk_mid w (.cells #[.int .i64 1, .int .i64 mode, .int .u32 time, .string data] 66) #[.int .i64 0, .int .i64 0, .int .u32 0, .int .i64 0, .int .u32 0] 64 (.cells #[.int .i64 1, .int .i64 mode, .int .u32 time, .int .i64 data.size, .int .u32 0] 64)).below hb1 (by simp)
    have hbw : Below w.heap.size w w1 := ((((Below.refl _ _).alloc (Nat.le_refl _) _).alloc (by simp) _).alloc (by simp; omega) _).trans (hb1.mono (by simp; omega))
    have p0 := hP.cell 0
    have p1 := hP.cell 1
    have p2 := hP.cell 2
    have p3 := hP.cell 3
    have p4 := hP.cell 4
    have pf := hP.frozen 4
    have r0 := hR.cell 0
    have r1 := hR.cell 1
    have r2 := hR.cell 2
    have r3 := hR.cell 3
    have r4 := hR.cell 4
    have f0 := hR.frozen 0
    have f1 := hR.frozen 1
    have f2 := hR.frozen 2
    have f3 := hR.frozen 3
    have f4 := hR.frozen 4
    simp at p0 p1 p2 p3 p4 r0 r1 r2 r3 r4
    have HP := Lib.hid hP; clear hP
    have HR := Lib.hid hR; clear hR
    go_wp2_with fail
    refine bodyPost_ret (results_cell_row rfl _ _ (w.heap.size + 1) 64 #[.int .i64 1, .int .i64 mode, .int .u32 time, .int .i64 data.size, .int .u32 sm] (0, 0) _ rfl ((((((HR.out.far (p := ⟨w.heap.size + 1 + 1, 4, none⟩) (by simp) _).put 0 (.int .i64 1)).put 1 (.int .i64 mode)).put 2 (.int .u32 time)).put 3 (.int .i64 data.size)).put 4 (.int .u32 sm)) Try.underlying64 rfl (by kernel_rfl)) rfl ⟨rfl, ?_⟩
    exact (((((hbw.setCell (by simp; omega) _).setCell (by simp) _).setCell (by simp) _).setCell (by simp) _).setCell (by simp) _).setCell (by simp) _
  · rw [if_neg hk]
    have hkb : (kind == 1) = false := by rw [beq_eq_false_iff_ne]; exact hk
    go_enter Try.func63, Try.ntmps63
    go_wp2_with fail
    exact bodyPost_ret (results_cell_row rfl _ _ (w.heap.size + 1) 64 #[.int .i64 kind, .int .i64 mode, .int .u32 time, .int .i64 data.size, .int .u32 0] (0, 0) _ rfl (blk_mid w _ _ _ _) Try.underlying64 rfl (by kernel_rfl)) rfl ⟨rfl, (((Below.refl _ _).alloc (Nat.le_refl _) _).alloc (by simp) _).alloc (by simp; omega) _⟩
set_option maxRecDepth 100000 in
set_option maxHeartbeats 4000000 in
theorem refPrint_any (w : World) (n : Nd) (hm : n.data.size ≤ maxLen) :
    Calls Try.prog 34 #[.agg n.c] w fun e w' => e = .returned (.agg (printN n).c) ∧ Below w.heap.size w w' := by
  have HS := Lib.hid (fun W => sumRef_any W n.data hm)
  obtain ⟨kind, mode, time, data⟩ := n
  unfold printN Pr.c Nd.c
  simp only at HS hm ⊢
  unfold maxLen at hm
  by_cases hk : kind = 1
  · rw [if_pos hk]
    subst hk
    generalize ofS data.data.toList = sm at *
    go_enter Try.func34, Try.ntmps34
    go_wp2_with fail
    refine (HS.out _).mono ?_
    rintro e w1 ⟨rfl, hb1⟩
    have hP := (blk_trd w (.cells #[.int .i64 1, .int .i64 mode, .int .u32 time, .string data] 66) (.cells #[.int .i64 0, .int .i64 0, .int .u32 0, .int .i64 0, .int .u32 0] 64) #[.int .i64 1, .int .i64 mode, .int .u32 time, .int .i64 data.size, .int .u32 0] 64).below hb1 (by simp)
    have hR := (blk_mid w (.cells #[.int .i64 1, .int .i64 mode, .int .u32 time, .string data] 66) #[.int .i64 0, .int .i64 0, .int .u32 0, .int .i64 0, .int .u32 0] 64 (.cells #[.int .i64 1, .int .i64 mode, .int .u32 time, .int .i64 data.size, .int .u32 0] 64)).below hb1 (by simp)
    have hbw : Below w.heap.size w w1 := ((((Below.refl _ _).alloc (Nat.le_refl _) _).alloc (by simp) _).alloc (by simp; omega) _).trans (hb1.mono (by simp; omega))
    have p0 := hP.cell 0
    have p1 := hP.cell 1
    have p2 := hP.cell 2
    have p3 := hP.cell 3
    have p4 := hP.cell 4
    have pf := hP.frozen 4
    have r0 := hR.cell 0
    have r1 := hR.cell 1
    have r2 := hR.cell 2
    have r3 := hR.cell 3
    have r4 := hR.cell 4
    have f0 := hR.frozen 0
    have f1 := hR.frozen 1
    have f2 := hR.frozen 2
    have f3 := hR.frozen 3
    have f4 := hR.frozen 4
    simp at p0 p1 p2 p3 p4 r0 r1 r2 r3 r4
    have HP := Lib.hid hP; clear hP
    have HR := Lib.hid hR; clear hR
    go_wp2_with fail
    refine bodyPost_ret (results_cell_row rfl _ _ (w.heap.size + 1) 64 #[.int .i64 1, .int .i64 mode, .int .u32 time, .int .i64 data.size, .int .u32 sm] (0, 0) _ rfl ((((((HR.out.far (p := ⟨w.heap.size + 1 + 1, 4, none⟩) (by simp) _).put 0 (.int .i64 1)).put 1 (.int .i64 mode)).put 2 (.int .u32 time)).put 3 (.int .i64 data.size)).put 4 (.int .u32 sm)) Try.underlying64 rfl (by kernel_rfl)) rfl ⟨rfl, ?_⟩
    exact (((((hbw.setCell (by simp; omega) _).setCell (by simp) _).setCell (by simp) _).setCell (by simp) _).setCell (by simp) _).setCell (by simp) _
  · rw [if_neg hk]
    have hkb : (kind == 1) = false := by rw [beq_eq_false_iff_ne]; exact hk
    go_enter Try.func34, Try.ntmps34
    go_wp2_with fail
    exact bodyPost_ret (results_cell_row rfl _ _ (w.heap.size + 1) 64 #[.int .i64 kind, .int .i64 mode, .int .u32 time, .int .i64 data.size, .int .u32 0] (0, 0) _ rfl (blk_mid w _ _ _ _) Try.underlying64 rfl (by kernel_rfl)) rfl ⟨rfl, (((Below.refl _ _).alloc (Nat.le_refl _) _).alloc (by simp) _).alloc (by simp; omega) _⟩
end Go.Proofs.Ytpnkgldpmalklaa
