/- Contracts of the reference's two and Text. -/
import Derived.Test.YthmlfeaoaanmoaaDosParse
set_option linter.unusedVariables false
namespace Go.Proofs.Ythmlfeaoaanmoaa
open Go.RowKit
open Sw
theorem two_list (n : Nat) (h : n < 100) : digL n 2 = [UInt8.ofNat (48 + n / 10), UInt8.ofNat (48 + n % 10)] := by
  have e1 : n / 10 ^ 1 % 10 = n / 10 := by omega
  have e0 : n / 10 ^ 0 % 10 = n % 10 := by omega
  simp only [digL, e1, e0]
set_option maxRecDepth 100000 in
set_option maxHeartbeats 1000000 in
theorem refTwo_any (w : World) (n : Int) (h0 : 0 ≤ n) (h1 : n < 100) :
    Calls Try.prog 56 #[.int .i64 n] w fun e w' => e = .returned (.string (dig n 2)) ∧ Below w.heap.size w w' := by
  have e1 : (n / 10) % 10 = n / 10 := by omega
  have hl := two_list n.toNat (by omega)
  have hd : dig n 2 = ⟨(digL n.toNat 2).toArray⟩ := rfl
  have HD := Lib.hid hd; clear hd
  have HL := Lib.hid hl; clear hl
  go_enter Try.func56, Try.ntmps56
  have ht1 : (UInt8.ofNat (48 + n.toNat / 10)).toNat = 48 + n.toNat / 10 := by simp; omega
  have ht2 : (UInt8.ofNat (48 + n.toNat % 10)).toNat = 48 + n.toNat % 10 := by simp; omega
  have hc1 : (((UInt8.ofNat (48 + n.toNat / 10)).toNat : Nat) : Int) = 48 + n / 10 := by rw [ht1]; omega
  have hc2 : (((UInt8.ofNat (48 + n.toNat % 10)).toNat : Nat) : Int) = 48 + n % 10 := by rw [ht2]; omega
  have hcv := run_convert_bytes_back (P := Try.prog) (w.alloc (Obj.cells #[Value.int IntKind.u8 (48 + n / 10), Value.int IntKind.u8 (48 + n % 10)] 5)) 76 9 5 ⟨w.heap.size, 0, none⟩ 2 [UInt8.ofNat (48 + n.toNat / 10), UInt8.ofNat (48 + n.toNat % 10)] Try.underlying76 Try.underlying5 Try.underlying9 (fun j hj => by
    have hb := Blk.new w 5 #[Value.int IntKind.u8 (48 + n / 10), Value.int IntKind.u8 (48 + n % 10)]
    match j, hj with
    | 0, _ => show _ = some (Value.int .u8 (((UInt8.ofNat (48 + n.toNat / 10)).toNat : Nat) : Int)); rw [hc1]; exact hb.cell 0
    | 1, _ => show _ = some (Value.int .u8 (((UInt8.ofNat (48 + n.toNat % 10)).toNat : Nat) : Int)); rw [hc2]; exact hb.cell 1)
  simp only [List.length_cons, List.length_nil] at hcv
  clear ht1 ht2 hc1 hc2
  generalize hq : (⟨[UInt8.ofNat (48 + n.toNat / 10), UInt8.ofNat (48 + n.toNat % 10)].toArray⟩ : ByteArray) = q at *
  have HQ := Lib.hid hq; clear hq
  go_wp2_with fail
  go_ret
  rw [HD.out, HL.out, HQ.out]
  exact ⟨rfl, (Below.refl w.heap.size w).alloc (Nat.le_refl _) _⟩
theorem dig_four (n : Int) (h0 : 0 ≤ n) (h1 : n < 10000) : dig n 4 = dig (n / 100) 2 ++ dig (n % 100) 2 := by
  have e1 : (n / 100).toNat = n.toNat / 100 := by omega
  have e2 : (n % 100).toNat = n.toNat % 100 := by omega
  unfold dig
  rw [digL_four n.toNat (by omega), e1, e2]
  apply ByteArray.ext
  rw [ByteArray.data_append]
  simp
set_option maxRecDepth 100000 in
set_option maxHeartbeats 4000000 in
theorem refText_any (w : World) (x : Dt) (hok : x.Ok) :
    Calls Try.prog 24 #[.agg (Dt.v x)] w fun e w' => e = .returned (.string (textD x)) ∧ Below w.heap.size w w' := by
  have hy := hok.year
  have h2 := hok
  unfold Dt.Ok at h2
  have HY := Lib.hid (fun W => refTwo_any W (x.y / 100) (by omega) (by omega))
  have HZ := Lib.hid (fun W => refTwo_any W (x.y % 100) (by omega) (by omega))
  have HM := Lib.hid (fun W => refTwo_any W x.m (by omega) (by omega))
  have HD := Lib.hid (fun W => refTwo_any W x.d (by omega) (by omega))
  have HH := Lib.hid (fun W => refTwo_any W x.h (by omega) (by omega))
  have HI := Lib.hid (fun W => refTwo_any W x.mi (by omega) (by omega))
  have HS := Lib.hid (fun W => refTwo_any W x.s (by omega) (by omega))
  have hT : textD x = dig x.y 4 ++ ⟨#[45]⟩ ++ dig x.m 2 ++ ⟨#[45]⟩ ++ dig x.d 2 ++ ⟨#[32]⟩ ++ dig x.h 2 ++ ⟨#[58]⟩ ++ dig x.mi 2 ++ ⟨#[58]⟩ ++ dig x.s 2 := rfl
  rw [dig_four x.y (by omega) (by omega)] at hT
  rw [hT]
  clear hT hok
  have sY := dig_size (x.y / 100) 2
  have sZ := dig_size (x.y % 100) 2
  have sM := dig_size x.m 2
  have sD := dig_size x.d 2
  have sH := dig_size x.h 2
  have sI := dig_size x.mi 2
  have sS := dig_size x.s 2
  generalize dig (x.y / 100) 2 = Y at *
  generalize dig (x.y % 100) 2 = Z at *
  generalize dig x.m 2 = M at *
  generalize dig x.d 2 = D at *
  generalize dig x.h 2 = H at *
  generalize dig x.mi 2 = I at *
  generalize dig x.s 2 = S at *
  have hTA : TimeAt w w.heap.size 24 x (w.alloc (Obj.cells (Dt.v x) 24)).drew := ⟨Blk.new w _ _, ((Below.refl _ _).alloc (Nat.le_refl _) _).drew⟩
  have HTD := Lib.hid hTA; clear hTA
  have q0 : ∀ n : Held (TimeAt w w.heap.size 24 x), (HeldW n).cell? ⟨w.heap.size, 0, none⟩ = some (.int .i64 x.y) := fun n => (HeldW_spec n).1.cell 0
  have q1 : ∀ n : Held (TimeAt w w.heap.size 24 x), (HeldW n).cell? ⟨w.heap.size, 1, none⟩ = some (.int .i64 x.m) := fun n => (HeldW_spec n).1.cell 1
  have q2 : ∀ n : Held (TimeAt w w.heap.size 24 x), (HeldW n).cell? ⟨w.heap.size, 2, none⟩ = some (.int .i64 x.d) := fun n => (HeldW_spec n).1.cell 2
  have q3 : ∀ n : Held (TimeAt w w.heap.size 24 x), (HeldW n).cell? ⟨w.heap.size, 3, none⟩ = some (.int .i64 x.h) := fun n => (HeldW_spec n).1.cell 3
  have q4 : ∀ n : Held (TimeAt w w.heap.size 24 x), (HeldW n).cell? ⟨w.heap.size, 4, none⟩ = some (.int .i64 x.mi) := fun n => (HeldW_spec n).1.cell 4
  have q5 : ∀ n : Held (TimeAt w w.heap.size 24 x), (HeldW n).cell? ⟨w.heap.size, 5, none⟩ = some (.int .i64 x.s) := fun n => (HeldW_spec n).1.cell 5
  haveI : Nonempty (Held (TimeAt w w.heap.size 24 x)) := held_some HTD.out
  go_enter Try.func24, Try.ntmps24
  go_wp2_with fail
  refine wp_region_class (TimeAt w w.heap.size 24 x) (by kernel_rfl) (by kernel_rfl) HTD.out ?_
  repeat (go_big_quiet_step (first | with_reducible exact held_below (fun _ _ => TimeAt.below) (HY.out _) | with_reducible exact held_below (fun _ _ => TimeAt.below) (HZ.out _) | with_reducible exact held_below (fun _ _ => TimeAt.below) (HM.out _) | with_reducible exact held_below (fun _ _ => TimeAt.below) (HD.out _) | with_reducible exact held_below (fun _ _ => TimeAt.below) (HH.out _) | with_reducible exact held_below (fun _ _ => TimeAt.below) (HI.out _) | with_reducible exact held_below (fun _ _ => TimeAt.below) (HS.out _)))
  refine wpQuiet_nil ?_
  rintro _ ⟨n, rfl⟩
  go_wp2_with fail
  go_ret
  exact ⟨rfl, (HeldW_spec n).2⟩
end Go.Proofs.Ythmlfeaoaanmoaa
