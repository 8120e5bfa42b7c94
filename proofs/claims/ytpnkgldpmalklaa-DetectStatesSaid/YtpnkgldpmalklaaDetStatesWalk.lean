/- The walk of DetectStates. -/
import Derived.Test.YtpnkgldpmalklaaLift
import Derived.Test.YtpnkgldpmalklaaDetState
import Derived.Test.YtpnkgldpmalklaaNodeOpen
set_option linter.unusedVariables false
set_option linter.unusedSimpArgs false
namespace Go.Proofs.Ytpnkgldpmalklaa
open Go Go.ChangeShapes Go.WideShapes Go.ChangeAt Go.RowKit
open Go.ChangeMaps (open_string shut_string)
open Sw
set_option maxRecDepth 100000 in
set_option maxHeartbeats 4000000 in
theorem detect_lives (w : World) : Calls Try.prog 35 #[] w fun e w' => e = .returned (.bool true) ∧ Below w.heap.size w w' := by
  have h1 := Lib.hid (fun W => state_any W ⟨0, 0, 0, 0, 0⟩ false ⟨1, 0, 0, ⟨#[]⟩⟩ (by show 0 ≤ maxLen; omega))
  have h2 := Lib.hid (fun W => state_any W ⟨0, 0, 0, 0, 0⟩ false ⟨0, 0, 0, ⟨#[]⟩⟩ (by show 0 ≤ maxLen; omega))
  rw [show stateN ⟨0, 0, 0, 0, 0⟩ false ⟨1, 0, 0, ⟨#[]⟩⟩ = 1 by rfl] at h1
  rw [show stateN ⟨0, 0, 0, 0, 0⟩ false ⟨0, 0, 0, ⟨#[]⟩⟩ = 0 by rfl] at h2
  unfold Pr.c Nd.c at h1 h2
  go_enter Try.func35, Try.ntmps35
  go_wp2_with fail
  refine (h1.out _).mono ?_
  rintro e w1 ⟨rfl, hb1⟩
  go_wp2_with fail
  refine (h2.out _).mono ?_
  rintro e w2 ⟨rfl, hb2⟩
  go_wp2_with fail
  go_ret
  exact ⟨rfl, hb1.trans (hb2.mono hb1.size)⟩
set_option maxRecDepth 100000 in
set_option maxHeartbeats 4000000 in
theorem detectStates_main (w : World) (was : Pr) (had : Bool) (n : Nd) (hm : n.data.size ≤ maxLen) :
    Calls Try.prog 6 #[.agg was.c, .bool had, .agg n.c] w fun e w' => e = .returned (.bool true) ∧ Below w.heap.size w w' := by
  unfold maxLen at hm
  obtain ⟨k, hk, hmin⟩ : ∃ k : Nat, k ≤ n.data.size ∧ min (n.data.size : Int) 2000 = k := ⟨min n.data.size 2000, by omega, by omega⟩
  have hs1 : (n.data.extract 0 k).size ≤ maxLen := by rw [ByteArray.size_extract]; unfold maxLen; omega
  obtain ⟨kind, mode, time, data⟩ := n
  simp only at hk hm hmin hs1 ⊢
  have hP1 := fun W => refPrint_any W ⟨kind, mode, time, data.extract 0 k⟩ hs1
  have hS1 := fun W => state_any W was had ⟨kind, mode, time, data.extract 0 k⟩ hs1
  have hS2 := fun W => refState_any W was had ⟨kind, mode, time, data.extract 0 k⟩ hs1
  have hS3 := fun W => state_any W (printN ⟨kind, mode, time, data.extract 0 k⟩) true ⟨kind, mode, time, data.extract 0 k⟩ hs1
  rw [show stateN (printN ⟨kind, mode, time, data.extract 0 k⟩) true ⟨kind, mode, time, data.extract 0 k⟩ = 0 by unfold stateN; rw [if_neg (by simp), if_pos rfl]] at hS3
  generalize stateN was had ⟨kind, mode, time, data.extract 0 k⟩ = st at *
  generalize printN ⟨kind, mode, time, data.extract 0 k⟩ = p at *
  obtain ⟨nd, hnd⟩ : ∃ nd : Nd, nd = ⟨kind, mode, time, data.extract 0 k⟩ := ⟨_, rfl⟩
  have hc : nd.c = #[.int .i64 kind, .int .i64 mode, .int .u32 time, .string (data.extract 0 k)] := by rw [hnd]; rfl
  have hB0 : Boxes w was nd ((w.alloc (.cells was.c 64)).alloc (.cells #[.int .i64 kind, .int .i64 mode, .int .u32 time, .string (data.extract 0 k)] 66)) := ⟨blk_fst _ _ _ _, by rw [hc]; exact blk_snd _ _ _ _, ((Below.refl _ _).alloc (Nat.le_refl _) _).alloc (by simp) _⟩
  have HB0 := Lib.hid hB0; clear hB0
  have q0 : ∀ x : Held (Boxes w was nd), (HeldW x).cell? ⟨w.heap.size, 0, none⟩ = some (.int .i64 was.kind) := fun x => (HeldW_spec x).1.cell 0
  have q1 : ∀ x : Held (Boxes w was nd), (HeldW x).cell? ⟨w.heap.size, 1, none⟩ = some (.int .i64 was.mode) := fun x => (HeldW_spec x).1.cell 1
  have q2 : ∀ x : Held (Boxes w was nd), (HeldW x).cell? ⟨w.heap.size, 2, none⟩ = some (.int .u32 was.time) := fun x => (HeldW_spec x).1.cell 2
  have q3 : ∀ x : Held (Boxes w was nd), (HeldW x).cell? ⟨w.heap.size, 3, none⟩ = some (.int .i64 was.size) := fun x => (HeldW_spec x).1.cell 3
  have q4 : ∀ x : Held (Boxes w was nd), (HeldW x).cell? ⟨w.heap.size, 4, none⟩ = some (.int .u32 was.sum) := fun x => (HeldW_spec x).1.cell 4
  have n0 : ∀ x : Held (Boxes w was nd), (HeldW x).cell? ⟨w.heap.size + 1, 0, none⟩ = some (.int .i64 kind) := fun x => ((HeldW_spec x).2.1.cell 0).trans (by rw [hc]; rfl)
  have n1 : ∀ x : Held (Boxes w was nd), (HeldW x).cell? ⟨w.heap.size + 1, 1, none⟩ = some (.int .i64 mode) := fun x => ((HeldW_spec x).2.1.cell 1).trans (by rw [hc]; rfl)
  have n2 : ∀ x : Held (Boxes w was nd), (HeldW x).cell? ⟨w.heap.size + 1, 2, none⟩ = some (.int .u32 time) := fun x => ((HeldW_spec x).2.1.cell 2).trans (by rw [hc]; rfl)
  have n3 : ∀ x : Held (Boxes w was nd), (HeldW x).cell? ⟨w.heap.size + 1, 3, none⟩ = some (.string (data.extract 0 k)) := fun x => ((HeldW_spec x).2.1.cell 3).trans (by rw [hc]; rfl)
  haveI : Nonempty (Held (Boxes w was nd)) := held_some HB0.out
  clear hc hnd
  unfold Pr.c Nd.c at *
  have HP1 := Lib.hid hP1; clear hP1
  have HS1 := Lib.hid hS1; clear hS1
  have HS2 := Lib.hid hS2; clear hS2
  have HS3 := Lib.hid hS3; clear hS3
  go_enter Try.func6, Try.ntmps6
  go_wp2_with fail
  refine wp_region_class (Boxes w was nd) (by kernel_rfl) (by kernel_rfl) (by have h := HB0.out; exact ⟨h.1, h.2.1, h.2.2.drew⟩) ?_
  repeat (go_big_quiet_step (first | with_reducible exact held_below Boxes.keep (HP1.out _) | with_reducible exact held_below Boxes.keep (HS1.out _) | with_reducible exact held_below Boxes.keep (HS2.out _) | with_reducible exact held_below Boxes.keep (HS3.out _) | with_reducible exact held_below Boxes.keep (detect_lives _)))
  refine wpQuiet_nil ?_
  rintro _ ⟨nn, rfl⟩
  go_wp2_with fail
  go_ret
  exact ⟨rfl, (HeldW_spec nn).2.2⟩
set_option maxRecDepth 100000 in
theorem detectStates_walk : Walks 6 Try.f6 := by
  intro H enc W base args ds ps hval hA hlt hsz
  rw [Try.params6] at hA hval
  obtain ⟨v0, v1, v2, d0, d1, d2, p0, p1, p2, rfl, rfl, rfl, h0, h1, h2⟩ := trodAll_three hA
  obtain ⟨was, rfl, _⟩ := open_print (hval 0 64 v0 rfl rfl) h0
  obtain ⟨had, rfl, _⟩ := open_bool Try.underlying4 (hval 1 4 v1 rfl rfl) h1
  obtain ⟨n, rfl, hn⟩ := open_node (hval 2 66 v2 rfl rfl) h2
  exact detectStates_main W was had n hn.2.2.2
end Go.Proofs.Ytpnkgldpmalklaa
