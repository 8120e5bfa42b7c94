/- Several texts, joined for the limit of sixty files; each one opens with its own comment. -/
import Derived.Test.YtihiakkeloejlaaGreatDoorJoin11
import Derived.Test.YtihiakkeloejlaaGreatDoorJoin22
import Derived.Test.YtihiakkeloejlaaGreatDoorJoin13
import Derived.StillTailTactics
import Derived.RegionTactic
import Derived.BigRegion
/- sorted.Join over string, swingle/api.Node: rows, side, the iterator. -/
set_option linter.unusedVariables false
set_option linter.unusedSimpArgs false
namespace Go.Proofs.YtihiakkeloejlaaGreatDoor
open Go Go.RowKit Go.Shelf
open Sw
attribute [local go_sem] Oper.semAt_some
/-- a pair's cells -/
def pCSN (p : Option Nd × Option Nd) : Array Value := ([.int .i64 (p.1.getD ⟨0, 0, 0, ⟨#[]⟩⟩).kind, .int .i64 (p.1.getD ⟨0, 0, 0, ⟨#[]⟩⟩).mode, .int .u32 (p.1.getD ⟨0, 0, 0, ⟨#[]⟩⟩).time, .string (p.1.getD ⟨0, 0, 0, ⟨#[]⟩⟩).data, .int .i64 (p.2.getD ⟨0, 0, 0, ⟨#[]⟩⟩).kind, .int .i64 (p.2.getD ⟨0, 0, 0, ⟨#[]⟩⟩).mode, .int .u32 (p.2.getD ⟨0, 0, 0, ⟨#[]⟩⟩).time, .string (p.2.getD ⟨0, 0, 0, ⟨#[]⟩⟩).data, .bool p.1.isSome, .bool p.2.isSome]).toArray
set_option maxRecDepth 100000 in
theorem srtRowsSN_any (w : World) (bm : Nat) (xs : List (ByteArray × Nd)) (h : SMapSN w bm xs) :
    Calls Tryz.prog 51 #[.pointer (some ⟨bm, 0, none⟩)] w fun e w' => ∃ v, e = .returned (.tuple #[v, ordFSN]) ∧ w.ownsRow 0 101 5 v xs.length (xs.flatMap eCSN) ∧ ∃ n, w' = w.drewN n := by
  obtain ⟨v, hb, ho⟩ := h.row
  have hp := ho
  obtain ⟨A, c, rfl, _, _, _⟩ := SlV_of_any hp
  have c0 := hb.cell 0
  have c1 : w.cell? ⟨bm, 1, none⟩ = some (.slice A xs.length c) := hb.cell 1
  have HO := Lib.hid ho; clear ho hp hb h
  generalize xs.length = n at *
  go_enter Tryz.func51, Tryz.ntmps51
  go_wp2_with fail
  go_quiet (fail)
  go_wp2_with fail
  go_ret2
  exact ⟨_, rfl, HO.out, _, rfl⟩
set_option maxRecDepth 100000 in
set_option maxHeartbeats 2000000 in
theorem srtSideSN_any (w : World) (A1 A2 : Option Addr) (n1 n2 c1 c2 : Nat) (x y : List (ByteArray × Nd)) (hx : x.length = n1) (hy : y.length = n2) (h1 : SlOf w 5 eCSN A1 x) (h2 : SlOf w 5 eCSN A2 y) (k1 : ∀ e ∈ x, okS e.1) (k2 : ∀ e ∈ y, okS e.1) :
    Calls Tryz.prog 53 #[.slice A1 n1 c1, .slice A2 n2 c2, ordFSN] w fun e w' => e = .returned (.int .i64 (sideL ordS x y)) ∧ Below w.heap.size w w' := by
  cases y with
  | nil =>
    obtain rfl : n2 = 0 := by simpa using hy.symm
    go_enter Tryz.func53, Tryz.ntmps53
    go_wp2_with fail
    go_ret
    exact ⟨by unfold sideL; rfl, Below.refl _ _⟩
  | cons b y =>
    have e2 : ((n2 : Int) == 0) = false := by rw [beq_eq_false_iff_ne]; simp at hy; omega
    have p2 : (0 : Int) < n2 := by simp at hy; omega
    have r2 : 0 < n2 := by omega
    cases x with
    | nil =>
      obtain rfl : n1 = 0 := by simpa using hx.symm
      clear hy
      go_enter Tryz.func53, Tryz.ntmps53
      go_wp2_with fail
      go_ret
      exact ⟨by unfold sideL; rfl, Below.refl _ _⟩
    | cons a x =>
      have e1 : ((n1 : Int) == 0) = false := by rw [beq_eq_false_iff_ne]; simp at hx; omega
      have p1 : (0 : Int) < n1 := by simp at hx; omega
      have r1 : 0 < n1 := by omega
      obtain ⟨g1, o1, rfl, _, hc1⟩ := h1 (by simp)
      obtain ⟨g2, o2, rfl, _, hc2⟩ := h2 (by simp)
      have q1 := hc1 0 (by simp) 0 (by decide)
      have q2 := hc2 0 (by simp) 0 (by decide)
      simp only [eCSN, List.getElem?_cons_zero, List.getElem_cons_zero, Nat.zero_mul, Nat.add_zero] at q1 q2
      have HO := Lib.hid (fun W => orderS_any W a.1 b.1 (k1 a (List.mem_cons_self ..)) (k2 b (List.mem_cons_self ..)))
      have HS := Lib.hid (show sideL ordS (a :: x) (b :: y) = ordS a.1 b.1 from rfl)
      clear hc1 hc2 h1 h2 k1 k2 hx hy
      go_enter Tryz.func53, Tryz.ntmps53
      go_wp2_with fail
      go_still_tail 9, (by kernel_rfl)
      go_wp2_with fail
      refine (HO.out _).mono ?_
      rintro e w2 ⟨rfl, hb2⟩
      go_wp2_with fail
      go_ret
      exact ⟨by rw [HS.out]; rfl, (Below.refl _ _).drew.trans hb2⟩
end Go.Proofs.YtihiakkeloejlaaGreatDoor
