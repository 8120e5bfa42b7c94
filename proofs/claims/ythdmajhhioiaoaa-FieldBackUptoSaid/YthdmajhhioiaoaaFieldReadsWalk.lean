/- The walk of FieldReads, out of the contracts of field.Reader and of the reference's R. -/
import Derived.Test.YthdmajhhioiaoaaLift
import Derived.Test.YthdmajhhioiaoaaOpen
import Derived.Test.YthdmajhhioiaoaaFieldNum
import Derived.Test.YthdmajhhioiaoaaFieldNumbersWalk
set_option linter.unusedVariables false
namespace Go.Proofs.Ythdmajhhioiaoaa
open Go.ChangeShapes Go.WideShapes Go.ChangeAt Go.RowKit
open Go.ChangeMaps (open_string shut_string)
open Sw
/-- a step as it lies: its kind and its number -/
def stepE (a : Nat × Int) : List Value := [.int .u64 (a.1 : Int), .int .i64 a.2]
def stepV (a : Nat × Int) : Prop := a.1 < 18446744073709551616 ∧ -9223372036854775808 ≤ a.2 ∧ a.2 ≤ 9223372036854775807
theorem dec_step {H : Type} {enc : TypeId × Value → H} {w : World} (fuel : Nat) (cs : List Value) (x : DataW H × List MemPlace) (h : DataW.trod enc Try.prog w 0 (fun _ => true) true fuel 60 cs = some x) :
    ∃ a : Nat × Int, cs = stepE a ∧ stepV a := by
  obtain ⟨hl, hf⟩ := dec_fields Try.underlying60 (by kernel_rfl) (by kernel_rfl) h
  match cs, hl with
  | [c0, c1], _ =>
    obtain ⟨v0, n0, y0, e0, h0⟩ := hf 0 _ rfl
    obtain ⟨v1, n1, y1, e1, h1⟩ := hf 1 _ rfl
    simp at e0 e1
    subst e0 e1
    obtain ⟨k, ek, _, wk⟩ := DataW.trod_int Try.underlying58 h0
    obtain ⟨m, em, _, wm⟩ := DataW.trod_int Try.underlying3 h1
    simp at ek em
    subst ek em
    obtain ⟨k0, k1⟩ := bounds_u64 wk
    obtain ⟨m0, m1⟩ := bounds_i64 wm
    obtain ⟨k, rfl⟩ := Int.eq_ofNat_of_zero_le k0
    exact ⟨(k, m), rfl, by show k < _; omega, m0, m1⟩
theorem rdAt_le (s : ByteArray) (p : Nat) (bad : Bool) (n : Int) (hp : p ≤ s.size) : rdAt s p bad n ≤ s.size := by
  unfold rdAt
  split
  · rename_i h
    simp [canRead] at h
    omega
  · exact hp
set_option maxRecDepth 100000 in
set_option maxHeartbeats 1000000 in
theorem reads_walk (s : ByteArray) (A : Option Addr) (n c : Nat) (l : List (Nat × Int)) (w : World) (hs : s.size ≤ maxLen) (hnc : n ≤ c) (hcm : c ≤ maxLen) (hl : l.length = n) (hsl : SlOf w 2 stepE A l) (hv : ∀ a ∈ l, stepV a) :
    Calls Try.prog 6 #[.string s, .slice A n c] w fun e w' => e = .returned (.bool true) ∧ Below w.heap.size w w' := by
  unfold maxLen at hcm
  obtain ⟨m, hmn, hm40, hmin⟩ : ∃ m : Nat, m ≤ n ∧ m ≤ 40 ∧ min (n : Int) 40 = (m : Int) := ⟨min n 40, by omega, by omega, by omega⟩
  have HS := Lib.hid hsl; clear hsl
  have HV := Lib.hid hv; clear hv
  have HL := Lib.hid hl; clear hl
  go_enter Try.func6, Try.ntmps6
  go_wp2_with (first | (go_at_call 34; refine (read_any _ s).mono ?_; rintro e w1 ⟨rfl, rfl⟩))
  go_loopw [8, 22] (fun _ t wr => ∃ (k p : Nat) (bad : Bool), k ≤ m ∧ t = .int .i64 k ∧ p ≤ s.size ∧ Rdr wr w.heap.size s p bad ∧ Ref wr (w.heap.size + 1) s p bad ∧ Below w.heap.size w wr) (fun _ t _ => m - (intOf t).toNat)
  case atStart =>
    refine ⟨0, 0, false, Nat.zero_le _, rfl, Nat.zero_le _, Blk.alloc (Blk.new _ _ _) _, ?_, ((Below.refl _ _).alloc (Nat.le_refl _) _).alloc (by simp) _⟩
    have h := Blk.new (w.alloc (Obj.cells #[Value.string s, Value.int IntKind.i64 0, Value.bool false] 90)) 57 #[Value.string s, Value.int IntKind.i64 0, Value.bool false]
    simpa [Ref] using h
  case round =>
    obtain ⟨k, p, bad, hk, rfl, hp, hr, hx, hb⟩ := hrel
    by_cases hlt : k < m
    · have hkl : k < l.length := by have := HL.out; omega
      obtain ⟨b, off, rfl, hbw, hc⟩ := (HS.out.below hb (Nat.le_refl _)) (by omega)
      have hc0 := hc k hkl 0 (by omega)
      have hc1 := hc k hkl 1 (by omega)
      obtain ⟨v0, v1, v2⟩ := HV.out l[k] (List.getElem_mem _)
      clear hc
      generalize l[k] = a at *
      obtain ⟨kd, nn⟩ := a
      simp [stepE] at hc0 hc1
      have hP := Blk.new wr 60 #[.int .u64 kd, .int .i64 nn]
      have hr1 := Blk.alloc hr (Obj.cells #[.int .u64 kd, .int .i64 nn] 60)
      have hx1 := Blk.alloc hx (Obj.cells #[.int .u64 kd, .int .i64 nn] 60)
      have hb1 := hb.alloc hb.size (Obj.cells #[.int .u64 kd, .int .i64 nn] 60)
      have HP := Lib.hid hP; clear hP
      have HB := Lib.hid hb1; clear hb1
      have n1 : wr.heap.size ≠ w.heap.size := by have := Blk.lt hr; omega
      have n2 : wr.heap.size ≠ w.heap.size + 1 := by have := Blk.lt hx; omega
      have N1 := Lib.hid n1; clear n1
      have N2 := Lib.hid n2; clear n2
      have N3 := Lib.hid (show some (w.heap.size + 1) ≠ some w.heap.size from fun e => by injection e; omega)
      clear v0 hbw
      go_wp2_with fail
      · generalize wr.alloc (Obj.cells #[.int .u64 kd, .int .i64 nn] 60) = w1 at *
        generalize wr.heap.size = pb at *
        have hc := Blk.cell HP.out 1
        go_region_held3 (fun w' => w'.cell? ⟨pb, 1, none⟩ = some (.int .i64 nn))
          (first | exact hc | exact hg3.cell (hg2.cell hc (fun e => N1.out (by injection e))) (fun e => N2.out (by injection e)) | exact hg2.cell hc (fun e => N1.out (by injection e)) | go_keep)
          (first | (go_at_call 35; refine (rdNum_any _ w.heap.size s p bad nn hs hp ?_).mono ?_; exact hr1; rintro e w2 ⟨rfl, hr2, hg2⟩) | (go_at_call 36; refine (refNum_any _ (w.heap.size + 1) s p bad nn hs hp ?_).mono ?_; exact Blk.grown hx1 (grown_of_drew hg2) N3.out; rintro e w3 ⟨rfl, hx3, hg3⟩))
        have hr3 := Blk.grown hr2 hg3 (Ne.symm N3.out)
        have hb3 := below_grown (below_grown HB.out (grown_of_drew hg2) (Nat.le_refl _) HB.out.size) hg3 (Nat.le_succ _) (Nat.le_trans HB.out.size (grown_of_drew hg2).size)
        have hp3 := rdAt_le s p bad (wd nn) hp
        clear hc HP hr1 hx1 HB hr2 hg2 hg3 hr hx hb hc0 hc1
        generalize rdAt s p bad (wd nn) = p3 at *
        generalize rdBad s p bad (wd nn) = bad3 at *
        replace hr3 : Rdr w3 w.heap.size s p3 bad3 := hr3
        have hs1 := Lib.hid hs
        have x1 := hx3.c1
        have x2 := hx3.c2
        have e14 : IntKind.i64.wrap ((s.size : Int) - p3) = (s.size : Int) - p3 := IntWalk.i64_in _ (by have := hs1.out; unfold maxLen at this; omega)
        have e15 : (bad3 == !bad3) = false := by cases bad3 <;> rfl
        have e16 : ((!bad3) == bad3) = false := by cases bad3 <;> rfl
        go_wp2_with fail
        go_quiet ((first | (go_at_call 40; exact quietL (at_any _ w.heap.size s p3 bad3 hr3)) | (go_at_call 41; exact quietD (left_any _ w.heap.size s p3 bad3 hs1.out hp3 hr3)) | (go_at_call 42; exact quietL (fine_any _ w.heap.size s p3 bad3 hr3))))
        go_wp2
        go_roundw
        case rel => exact ⟨k + 1, p3, bad3, by omega, by go_num, hp3, hr3, hx3, below_drewN hb3 _⟩
        case measure => simp [intOf]; omega
      · generalize wr.alloc (Obj.cells #[.int .u64 kd, .int .i64 nn] 60) = w1 at *
        generalize wr.heap.size = pb at *
        have hc := Blk.cell HP.out 1
        go_region_held3 (fun w' => w'.cell? ⟨pb, 1, none⟩ = some (.int .i64 nn))
          (first | exact hc | exact hg3.cell (hg2.cell hc (fun e => N1.out (by injection e))) (fun e => N2.out (by injection e)) | exact hg2.cell hc (fun e => N1.out (by injection e)) | go_keep)
          (first | (go_at_call 37; refine (rdText_any _ w.heap.size s p bad nn hs hp ?_).mono ?_; exact hr1; rintro e w2 ⟨rfl, hr2, hg2⟩) | (go_at_call 38; refine (refText_any _ (w.heap.size + 1) s p bad nn hs hp ?_).mono ?_; exact Blk.grown hx1 (grown_of_drew hg2) N3.out; rintro e w3 ⟨rfl, hx3, hg3⟩))
        have hr3 := Blk.grown hr2 hg3 (Ne.symm N3.out)
        have hb3 := below_grown (below_grown HB.out (grown_of_drew hg2) (Nat.le_refl _) HB.out.size) hg3 (Nat.le_succ _) (Nat.le_trans HB.out.size (grown_of_drew hg2).size)
        have hp3 := rdAt_le s p bad nn hp
        clear hc HP hr1 hx1 HB hr2 hg2 hg3 hr hx hb hc0 hc1
        generalize rdAt s p bad nn = p3 at *
        generalize rdBad s p bad nn = bad3 at *
        replace hr3 : Rdr w3 w.heap.size s p3 bad3 := hr3
        have hs1 := Lib.hid hs
        have x1 := hx3.c1
        have x2 := hx3.c2
        have e14 : IntKind.i64.wrap ((s.size : Int) - p3) = (s.size : Int) - p3 := IntWalk.i64_in _ (by have := hs1.out; unfold maxLen at this; omega)
        have e15 : (bad3 == !bad3) = false := by cases bad3 <;> rfl
        have e16 : ((!bad3) == bad3) = false := by cases bad3 <;> rfl
        go_wp2_with fail
        go_quiet ((first | (go_at_call 40; exact quietL (at_any _ w.heap.size s p3 bad3 hr3)) | (go_at_call 41; exact quietD (left_any _ w.heap.size s p3 bad3 hs1.out hp3 hr3)) | (go_at_call 42; exact quietL (fine_any _ w.heap.size s p3 bad3 hr3))))
        go_wp2
        go_roundw
        case rel => exact ⟨k + 1, p3, bad3, by omega, by go_num, hp3, hr3, hx3, below_drewN hb3 _⟩
        case measure => simp [intOf]; omega
      · generalize wr.alloc (Obj.cells #[.int .u64 kd, .int .i64 nn] 60) = w1 at *
        generalize wr.heap.size = pb at *
        have hc := Blk.cell HP.out 1
        go_wp2_with (first | (go_at_call 39; refine (rdSkip_any _ w.heap.size s p bad nn hs hp ?_).mono ?_; exact hr1; rintro e w2 ⟨rfl, hr2, hg2⟩; have hc2 := hg2.cell hc (fun e => N1.out (by injection e))) | (go_at_call 38; refine (refText_any _ (w.heap.size + 1) s p bad nn hs hp ?_).mono ?_; exact Blk.grown hx1 hg2 N3.out; rintro e w3 ⟨rfl, hx3, hg3⟩))
        have hr3 := Blk.grown hr2 hg3 (Ne.symm N3.out)
        have hb3 := below_grown (below_grown HB.out hg2 (Nat.le_refl _) HB.out.size) hg3 (Nat.le_succ _) (Nat.le_trans HB.out.size hg2.size)
        have hp3 := rdAt_le s p bad nn hp
        clear hc hc2 HP hr1 hx1 HB hr2 hg2 hg3 hr hx hb hc0 hc1
        generalize rdAt s p bad nn = p3 at *
        generalize rdBad s p bad nn = bad3 at *
        replace hr3 : Rdr w3 w.heap.size s p3 bad3 := hr3
        have hs1 := Lib.hid hs
        have x1 := hx3.c1
        have x2 := hx3.c2
        have e14 : IntKind.i64.wrap ((s.size : Int) - p3) = (s.size : Int) - p3 := IntWalk.i64_in _ (by have := hs1.out; unfold maxLen at this; omega)
        have e15 : (bad3 == !bad3) = false := by cases bad3 <;> rfl
        have e16 : ((!bad3) == bad3) = false := by cases bad3 <;> rfl
        go_wp2_with fail
        go_quiet ((first | (go_at_call 40; exact quietL (at_any _ w.heap.size s p3 bad3 hr3)) | (go_at_call 41; exact quietD (left_any _ w.heap.size s p3 bad3 hs1.out hp3 hr3)) | (go_at_call 42; exact quietL (fine_any _ w.heap.size s p3 bad3 hr3))))
        go_wp2
        go_roundw
        case rel => exact ⟨k + 1, p3, bad3, by omega, by go_num, hp3, hr3, hx3, below_drewN hb3 _⟩
        case measure => simp [intOf]; omega
    · obtain rfl : k = m := by omega
      go_wp2_with (first | (go_at_call 39; refine (rdSkip_nil _ _).mono ?_; rintro e w' ⟨rfl, rfl⟩) | (go_at_call 35; refine (rdNum_nil _ _ rfl).mono ?_; rintro e w' ⟨rfl, rfl⟩) | (go_at_call 37; refine (rdText_nil _ _).mono ?_; rintro e w' ⟨rfl, rfl⟩) | (go_at_call 41; refine (left_nil _).mono ?_; rintro e w' ⟨rfl, rfl⟩) | (go_at_call 40; refine (at_nil _).mono ?_; rintro e w' ⟨rfl, rfl⟩) | (go_at_call 42; refine (fine_nil _).mono ?_; rintro e w' ⟨rfl, rfl⟩) | (go_at_call 16; refine (field_lives _).mono ?_; rintro e w3 ⟨rfl, hb3⟩))
      go_ret
      exact ⟨rfl, hb.trans (hb3.mono hb.size)⟩
theorem fieldReads_walk : Walks 6 Try.f6 := by
  intro H enc W base args ds ps hval hA hlt hsz
  rw [Try.params6] at hA hval
  obtain ⟨v0, v1, d0, d1, p0, p1, rfl, rfl, rfl, h0, h1⟩ := trodAll_two hA
  obtain ⟨s, rfl, rfl, rfl, hs⟩ := open_string Try.underlying9 (hval 0 9 v0 rfl rfl) h0
  obtain ⟨A, n, c, l, rfl, hnc, hcm, hl, hsl, hv, _⟩ := open_slice_dec (size := 2) stepE stepV Try.underlying52 (by kernel_rfl) (by omega) dec_step (hval 1 52 v1 rfl rfl) h1
  exact reads_walk s A n c l W hs hnc hcm hl hsl hv
end Go.Proofs.Ythdmajhhioiaoaa
