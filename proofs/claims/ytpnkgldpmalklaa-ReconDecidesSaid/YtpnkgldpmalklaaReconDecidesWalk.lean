/- The walk of ReconDecides. -/
import Derived.Test.YtpnkgldpmalklaaLift
import Derived.Test.YtpnkgldpmalklaaReconDecideB
import Derived.Test.YtpnkgldpmalklaaNodeOpen
import Derived.RegionTactic
import Derived.BigRegion
set_option linter.unusedVariables false
set_option linter.unusedSimpArgs false
namespace Go.Proofs.Ytpnkgldpmalklaa
open Go Go.ChangeShapes Go.WideShapes Go.ChangeAt Go.RowKit
open Sw
set_option maxRecDepth 100000 in
set_option maxHeartbeats 4000000 in
theorem recon_lives (w : World) : Calls Try.prog 40 #[] w fun e w' => e = .returned (.bool true) ∧ Below w.heap.size w w' := by
  have h1 := Lib.hid (fun W => decide_any W ⟨2, 0, 0, 0, 0⟩ true ⟨2, 0, 0, ⟨#[]⟩⟩ ⟨2, 7, 0, ⟨#[]⟩⟩ (by show 0 ≤ maxLen; omega) (by show 0 ≤ maxLen; omega))
  have h2 := Lib.hid (fun W => class_any W ⟨2, 0, 0, ⟨#[]⟩⟩ ⟨0, 0, 0, ⟨#[]⟩⟩)
  rw [show decideN ⟨2, 0, 0, 0, 0⟩ true ⟨2, 0, 0, ⟨#[]⟩⟩ ⟨2, 7, 0, ⟨#[]⟩⟩ = (1, 0) by decide] at h1
  rw [show classN ⟨2, 0, 0, ⟨#[]⟩⟩ ⟨0, 0, 0, ⟨#[]⟩⟩ = 2 by rfl] at h2
  unfold Pr.c Nd.c at h1
  unfold Nd.c at h2
  go_enter Try.func40, Try.ntmps40
  go_wp2_with fail
  refine (h1.out _).mono ?_
  rintro e w1 ⟨rfl, hb1⟩
  have hA := (blk_fst w #[.int .i64 2, .int .i64 0, .int .u32 0, .string ⟨#[]⟩] 66 (.cells #[.int .i64 2, .int .i64 7, .int .u32 0, .string ⟨#[]⟩] 66)).below hb1 (by simp; omega)
  have hbw : Below w.heap.size w w1 := (((Below.refl _ _).alloc (Nat.le_refl _) _).alloc (by simp) _).trans (hb1.mono (by simp; omega))
  have a0 := hA.cell 0
  have a1 := hA.cell 1
  have a2 := hA.cell 2
  have a3 := hA.cell 3
  simp at a0 a1 a2 a3
  go_wp2_with fail
  refine (h2.out _).mono ?_
  rintro e w2 ⟨rfl, hb2⟩
  go_wp2_with fail
  go_ret
  exact ⟨rfl, hbw.trans (hb2.mono hbw.size)⟩
def Nodes3 (w : World) (g1 g2 : Nat) (was : Pr) (na nb : Array Value) (W : World) : Prop :=
  Blk W g1 66 na ∧ Blk W g2 66 nb ∧ Blk W w.heap.size 64 was.c ∧ Below w.heap.size w W
theorem Nodes3.keep {w : World} {g1 g2 : Nat} {was : Pr} {na nb : Array Value} (W W' : World) (h : Nodes3 w g1 g2 was na nb W) (hb : Below W.heap.size W W') : Nodes3 w g1 g2 was na nb W' :=
  ⟨h.1.below hb h.1.lt, h.2.1.below hb h.2.1.lt, h.2.2.1.below hb h.2.2.1.lt, h.2.2.2.trans (hb.mono h.2.2.2.size)⟩
set_option maxRecDepth 100000 in
set_option maxHeartbeats 8000000 in
theorem reconDecides_main (w : World) (was : Pr) (had : Bool) (a b : Nd) (ha : a.data.size ≤ maxLen) (hb : b.data.size ≤ maxLen) :
    Calls Try.prog 7 #[.agg was.c, .bool had, .agg (a.c ++ b.c)] w fun e w' => e = .returned (.bool true) ∧ Below w.heap.size w w' := by
  have hab : a.c ++ b.c = #[.int .i64 a.kind, .int .i64 a.mode, .int .u32 a.time, .string a.data, .int .i64 b.kind, .int .i64 b.mode, .int .u32 b.time, .string b.data] := rfl
  rw [hab]
  clear hab
  unfold Pr.c
  go_enter Try.func7, Try.ntmps7
  go_wp2_with fail
  go_cut [7, 8] from 13 to 16 (fun p q wx => ∃ g1 g2 : Nat, p = .pointer (some ⟨g1, 0, none⟩) ∧ q = .pointer (some ⟨g2, 0, none⟩) ∧ g1 ≠ g2 ∧ Blk wx g1 66 #[.int .i64 a.kind, .int .i64 a.mode, .int .u32 a.time, .string a.data] ∧ Blk wx g2 66 #[.int .i64 b.kind, .int .i64 b.mode, .int .u32 b.time, .string b.data] ∧ Blk wx w.heap.size 64 was.c ∧ w.heap.size < g1 ∧ w.heap.size < g2 ∧ Below w.heap.size w wx)
  case first =>
    go_region
    all_goals
      go_wp2_with fail
      go_meet
      refine ⟨_, _, rfl, rfl, by omega, ?_, ?_, ?_, by omega, by omega, ?_⟩
    · exact (blk_trd _ _ _ _ _).alloc _
    · exact blk_fth _ _ _ _ _ _
    · exact ((blk_fst _ _ _ _).alloc _).alloc _
    · exact (((((Below.refl _ _).alloc (Nat.le_refl _) _).alloc (by simp) _).alloc (by simp; omega) _).alloc (by simp; omega) _).drew
    · exact blk_fth _ _ _ _ _ _
    · exact (blk_trd _ _ _ _ _).alloc _
    · exact ((blk_fst _ _ _ _).alloc _).alloc _
    · exact (((((Below.refl _ _).alloc (Nat.le_refl _) _).alloc (by simp) _).alloc (by simp; omega) _).alloc (by simp; omega) _).drew
  case rest =>
    obtain ⟨g1, g2, rfl, rfl, hne, hA, hB, hP, hl1, hl2, hbw⟩ := hcut
    unfold maxLen at ha hb
    obtain ⟨k, hk, hmin⟩ : ∃ k : Nat, k ≤ a.data.size ∧ min (a.data.size : Int) 1000 = k := ⟨min a.data.size 1000, by omega, by omega⟩
    obtain ⟨m, hm, hminb⟩ : ∃ m : Nat, m ≤ b.data.size ∧ min (b.data.size : Int) 1000 = m := ⟨min b.data.size 1000, by omega, by omega⟩
    have a3 := hA.cell 3
    have af := hA.frozen 3
    have b3 := hB.cell 3
    have bf := hB.frozen 3
    simp at a3 b3
    have HA := Lib.hid hA; clear hA
    have HB := Lib.hid hB; clear hB
    have HP := Lib.hid hP; clear hP
    have hne2 : g2 ≠ g1 := fun h => hne h.symm
    generalize wc = w1 at *
    go_wp2_with fail
    go_cut [7, 8] from 17 to 32 (fun p q wx => p = .pointer (some ⟨g1, 0, none⟩) ∧ q = .pointer (some ⟨g2, 0, none⟩) ∧ Blk wx g1 66 #[.int .i64 a.kind, .int .i64 a.mode, .int .u32 a.time, .string (a.data.extract 0 k)] ∧ Blk wx g2 66 #[.int .i64 b.kind, .int .i64 b.mode, .int .u32 b.time, .string (b.data.extract 0 m)] ∧ Blk wx w.heap.size 64 was.c ∧ Below w.heap.size w wx)
    case first =>
      go_region
      all_goals
        go_wp2_with fail
        go_meet
        exact ⟨rfl, rfl, (HA.out.put 3 _).far (p := ⟨g2, 3, none⟩) hne _, (HB.out.far (p := ⟨g1, 3, none⟩) hne2 _).put 3 _, (HP.out.far (p := ⟨g1, 3, none⟩) (by simp; omega) _).far (p := ⟨g2, 3, none⟩) (by simp; omega) _, ((hbw.setCell (by simp; omega) _).setCell (by simp; omega) _).drew⟩
    case rest =>
      obtain ⟨rfl, rfl, hA, hB, hP, hbw⟩ := hcut
      clear a3 af b3 bf HA HB HP
      have hs1 : (a.data.extract 0 k).size ≤ maxLen := by rw [ByteArray.size_extract]; unfold maxLen; omega
      have hs2 : (b.data.extract 0 m).size ≤ maxLen := by rw [ByteArray.size_extract]; unfold maxLen; omega
      generalize a.data.extract 0 k = ad at *
      generalize b.data.extract 0 m = bd at *
      obtain ⟨ak, am, at_, _⟩ := a
      obtain ⟨bk, bm, bt, _⟩ := b
      simp only at hA hB
      have hD1 := fun W => decide_any W was had ⟨ak, am, at_, ad⟩ ⟨bk, bm, bt, bd⟩ hs1 hs2
      have hD2 := fun W => refDecide_any W was had ⟨ak, am, at_, ad⟩ ⟨bk, bm, bt, bd⟩ hs1 hs2
      have hC1 := fun W => class_any W ⟨ak, am, at_, ad⟩ ⟨bk, bm, bt, bd⟩
      have hC2 := fun W => refClass_any W ⟨ak, am, at_, ad⟩ ⟨bk, bm, bt, bd⟩
      generalize decideN was had ⟨ak, am, at_, ad⟩ ⟨bk, bm, bt, bd⟩ = dd at *
      generalize classN ⟨ak, am, at_, ad⟩ ⟨bk, bm, bt, bd⟩ = cl at *
      obtain ⟨na, hna⟩ : ∃ na : Array Value, na = #[.int .i64 ak, .int .i64 am, .int .u32 at_, .string ad] := ⟨_, rfl⟩
      obtain ⟨nb, hnb⟩ : ∃ nb : Array Value, nb = #[.int .i64 bk, .int .i64 bm, .int .u32 bt, .string bd] := ⟨_, rfl⟩
      have hN : Nodes3 w g1 g2 was na nb wc := ⟨by rw [hna]; exact hA, by rw [hnb]; exact hB, hP, hbw⟩
      have HN := Lib.hid hN; clear hN hA hB hP hbw
      have a0 : ∀ x : Held (Nodes3 w g1 g2 was na nb), (HeldW x).cell? ⟨g1, 0, none⟩ = some (.int .i64 ak) := fun x => ((HeldW_spec x).1.cell 0).trans (by rw [hna]; rfl)
      have a1 : ∀ x : Held (Nodes3 w g1 g2 was na nb), (HeldW x).cell? ⟨g1, 1, none⟩ = some (.int .i64 am) := fun x => ((HeldW_spec x).1.cell 1).trans (by rw [hna]; rfl)
      have a2 : ∀ x : Held (Nodes3 w g1 g2 was na nb), (HeldW x).cell? ⟨g1, 2, none⟩ = some (.int .u32 at_) := fun x => ((HeldW_spec x).1.cell 2).trans (by rw [hna]; rfl)
      have a3 : ∀ x : Held (Nodes3 w g1 g2 was na nb), (HeldW x).cell? ⟨g1, 3, none⟩ = some (.string ad) := fun x => ((HeldW_spec x).1.cell 3).trans (by rw [hna]; rfl)
      have b0 : ∀ x : Held (Nodes3 w g1 g2 was na nb), (HeldW x).cell? ⟨g2, 0, none⟩ = some (.int .i64 bk) := fun x => ((HeldW_spec x).2.1.cell 0).trans (by rw [hnb]; rfl)
      have b1 : ∀ x : Held (Nodes3 w g1 g2 was na nb), (HeldW x).cell? ⟨g2, 1, none⟩ = some (.int .i64 bm) := fun x => ((HeldW_spec x).2.1.cell 1).trans (by rw [hnb]; rfl)
      have b2 : ∀ x : Held (Nodes3 w g1 g2 was na nb), (HeldW x).cell? ⟨g2, 2, none⟩ = some (.int .u32 bt) := fun x => ((HeldW_spec x).2.1.cell 2).trans (by rw [hnb]; rfl)
      have b3 : ∀ x : Held (Nodes3 w g1 g2 was na nb), (HeldW x).cell? ⟨g2, 3, none⟩ = some (.string bd) := fun x => ((HeldW_spec x).2.1.cell 3).trans (by rw [hnb]; rfl)
      have p0 : ∀ x : Held (Nodes3 w g1 g2 was na nb), (HeldW x).cell? ⟨w.heap.size, 0, none⟩ = some (.int .i64 was.kind) := fun x => (HeldW_spec x).2.2.1.cell 0
      have p1 : ∀ x : Held (Nodes3 w g1 g2 was na nb), (HeldW x).cell? ⟨w.heap.size, 1, none⟩ = some (.int .i64 was.mode) := fun x => (HeldW_spec x).2.2.1.cell 1
      have p2 : ∀ x : Held (Nodes3 w g1 g2 was na nb), (HeldW x).cell? ⟨w.heap.size, 2, none⟩ = some (.int .u32 was.time) := fun x => (HeldW_spec x).2.2.1.cell 2
      have p3 : ∀ x : Held (Nodes3 w g1 g2 was na nb), (HeldW x).cell? ⟨w.heap.size, 3, none⟩ = some (.int .i64 was.size) := fun x => (HeldW_spec x).2.2.1.cell 3
      have p4 : ∀ x : Held (Nodes3 w g1 g2 was na nb), (HeldW x).cell? ⟨w.heap.size, 4, none⟩ = some (.int .u32 was.sum) := fun x => (HeldW_spec x).2.2.1.cell 4
      haveI : Nonempty (Held (Nodes3 w g1 g2 was na nb)) := held_some HN.out
      clear hna hnb
      unfold Pr.c Nd.c at *
      have HD1 := Lib.hid hD1; clear hD1
      have HD2 := Lib.hid hD2; clear hD2
      have HC1 := Lib.hid hC1; clear hC1
      have HC2 := Lib.hid hC2; clear hC2
      obtain ⟨x0, hx0⟩ := held_mk (S := Nodes3 w g1 g2 was na nb) wc HN.out
      subst hx0
      go_wp2_with fail
      refine (HD1.out _).mono ?_
      rintro e w2 ⟨rfl, hb2⟩
      obtain ⟨x2, rfl⟩ := held_mk (S := Nodes3 w g1 g2 was na nb) w2 (Nodes3.keep _ _ HN.out hb2)
      go_wp2_with fail
      refine (HD2.out _).mono ?_
      rintro e w3 ⟨rfl, hb3⟩
      obtain ⟨x3, rfl⟩ := held_mk (S := Nodes3 w g1 g2 was na nb) w3 (Nodes3.keep _ _ (HeldW_spec x2) hb3)
      go_wp2_with fail
      refine wp_region_class (Nodes3 w g1 g2 was na nb) (by kernel_rfl) (by kernel_rfl) (by have h := HeldW_spec x3; exact ⟨h.1, h.2.1, h.2.2.1, h.2.2.2.drew⟩) ?_
      repeat (go_big_quiet_step (first | with_reducible exact held_below Nodes3.keep (HC1.out _) | with_reducible exact held_below Nodes3.keep (HC2.out _) | with_reducible exact held_below Nodes3.keep (recon_lives _)))
      refine wpQuiet_nil ?_
      rintro _ ⟨nn, rfl⟩
      go_wp2_with fail
      go_ret
      exact ⟨rfl, (HeldW_spec nn).2.2.2⟩
set_option maxRecDepth 100000 in
theorem reconDecides_walk : Walks 7 Try.f7 := by
  intro H enc W base args ds ps hval hA hlt hsz
  rw [Try.params7] at hA hval
  obtain ⟨v0, v1, v2, d0, d1, d2, p0, p1, p2, rfl, rfl, rfl, h0, h1, h2⟩ := trodAll_three hA
  obtain ⟨was, rfl, _⟩ := open_print (hval 0 64 v0 rfl rfl) h0
  obtain ⟨had, rfl, _⟩ := open_bool Try.underlying4 (hval 1 4 v1 rfl rfl) h1
  obtain ⟨l, rfl, hl, hv⟩ := open_array_rows (n := 2) (size := 4) (fun n : Nd => n.c.toList) Nd.In Try.underlying70 (by kernel_rfl) (by kernel_rfl) (fun _ => rfl) dec_node (hval 2 70 v2 rfl rfl) h2
  obtain ⟨a, b, rfl⟩ : ∃ a b, l = [a, b] := by
    match l, hl with
    | [a, b], _ => exact ⟨a, b, rfl⟩
  exact reconDecides_main W was had a b (hv a (by simp)).2.2.2 (hv b (by simp)).2.2.2
end Go.Proofs.Ytpnkgldpmalklaa
