/- Several texts, joined for the limit of sixty files; each one opens with its own comment. -/
import Derived.Test.YthnnnlbdbkdcaaaDoorJoin10
import Derived.Test.YthnnnlbdbkdcaaaDoorJoin1
import Derived.Test.YthnnnlbdbkdcaaaDoorRows
import Derived.Test.YthnnnlbdbkdcaaaDoorJoin6
import Derived.Laws.BitsAllLaws
/- The order of paths, as sorted asks for it. -/
set_option linter.unusedVariables false
set_option linter.unusedSimpArgs false
namespace Sw
open Go Go.RowKit
open Go.Proofs.YthnnnlbdbkdcaaaDoor (partsS)
open Go.Lib (compareBytes)
theorem cb_trans : ∀ a b d : List UInt8, compareBytes a b = -1 → compareBytes b d = -1 → compareBytes a d = -1
  | [], [], _, h, _ => by simp [compareBytes] at h
  | [], _ :: _, [], _, h => by simp [compareBytes] at h
  | [], _ :: _, _ :: _, _, _ => rfl
  | _ :: _, [], _, h, _ => by simp [compareBytes] at h
  | _ :: _, _ :: _, [], _, h => by simp [compareBytes] at h
  | x :: a, y :: b, z :: d, h1, h2 => by
    rw [compareBytes] at h1 h2 ⊢
    by_cases hxy : x < y
    · by_cases hyz : y < z
      · rw [if_pos (UInt8.lt_trans hxy hyz)]
      · by_cases hzy : z < y
        · rw [if_neg hyz, if_pos hzy] at h2; cases h2
        · have := u8_tri y z hyz hzy; subst this; rw [if_pos hxy]
    · by_cases hyx : y < x
      · rw [if_neg hxy, if_pos hyx] at h1; cases h1
      · have := u8_tri x y hxy hyx
        subst this
        rw [if_neg hxy, if_neg hyx] at h1
        by_cases hyz : x < z
        · rw [if_pos hyz]
        · by_cases hzy : z < x
          · rw [if_neg hyz, if_pos hzy] at h2; cases h2
          · rw [if_neg hyz, if_neg hzy] at h2 ⊢
            exact cb_trans a b d h1 h2
theorem cL_trans : ∀ a b d : List ByteArray, cL a b = -1 → cL b d = -1 → cL a d = -1
  | [], [], _, h, _ => by simp [cL] at h
  | [], _ :: _, [], _, h => by simp [cL] at h
  | [], _ :: _, _ :: _, _, _ => rfl
  | _ :: _, [], _, h, _ => by simp [cL] at h
  | _ :: _, _ :: _, [], _, h => by simp [cL] at h
  | x :: a, y :: b, z :: d, h1, h2 => by
    rw [cL] at h1 h2 ⊢
    by_cases hxy : compareBytes x.data.toList y.data.toList = 0
    · rw [if_pos hxy] at h1
      have := dat_inj (cb_zero _ _ hxy)
      subst this
      by_cases hyz : compareBytes x.data.toList z.data.toList = 0
      · rw [if_pos hyz] at h2 ⊢
        exact cL_trans a b d h1 h2
      · rw [if_neg hyz] at h2 ⊢
        exact h2
    · rw [if_neg hxy] at h1
      by_cases hyz : compareBytes y.data.toList z.data.toList = 0
      · have := dat_inj (cb_zero _ _ hyz)
        subst this
        rw [if_neg hxy]
        exact h1
      · rw [if_neg hyz] at h2
        have h3 := cb_trans _ _ _ h1 h2
        rw [if_neg (by omega)]
        exact h3
theorem ordS_trans {p q s : ByteArray} (h1 : ordS p q = -1) (h2 : ordS q s = -1) : ordS p s = -1 := by
  unfold ordS at *
  by_cases hp : (partsS p).length = 0
  · by_cases hq : (partsS q).length = 0
    · rw [if_pos ⟨hp, hq⟩] at h1
      by_cases hs : (partsS s).length = 0
      · rw [if_pos ⟨hq, hs⟩] at h2
        rw [if_pos ⟨hp, hs⟩]
        exact cb_trans _ _ _ h1 h2
      · rw [if_neg (fun e => hs e.2)] at h2 ⊢
        have e1 := List.length_eq_zero_iff.1 hp
        have e2 := List.length_eq_zero_iff.1 hq
        rw [e2] at h2
        rw [e1]
        exact h2
    · rw [if_neg (fun e => hq e.2)] at h1
      rw [if_neg (fun e => hq e.1)] at h2
      have h3 := cL_trans _ _ _ h1 h2
      by_cases hs : (partsS s).length = 0
      · have e1 := List.length_eq_zero_iff.1 hp
        have e2 := List.length_eq_zero_iff.1 hs
        rw [e1, e2] at h3
        cases h3
      · rw [if_neg (fun e => hs e.2)]
        exact h3
  · rw [if_neg (fun e => hp e.1)] at h1 ⊢
    by_cases hq : (partsS q).length = 0
    · have e2 := List.length_eq_zero_iff.1 hq
      rw [e2] at h1
      cases hpp : partsS p with
      | nil => rw [hpp] at hp; exact absurd rfl hp
      | cons x l => rw [hpp] at h1; cases h1
    · rw [if_neg (fun e => hq e.1)] at h2
      exact cL_trans _ _ _ h1 h2
theorem ordS_ord : Ord3 ordS := ⟨fun a b h => ordS_zero h, ordS_neg, fun a b d h1 h2 => by
  have e1 := ordS_three a b
  have e2 := ordS_three b d
  have := ordS_trans (p := a) (q := b) (s := d) (by omega) (by omega)
  omega⟩
/-- keys that sorted is asked for -/
def okS (k : ByteArray) : Prop := k.size ≤ 90000
end Sw
namespace Go.Proofs.YthnnnlbdbkdcaaaDoor
open Go Go.RowKit
open Sw
theorem orderS_any (w : World) (a b : ByteArray) (ha : okS a) (hb : okS b) :
    Calls Tryd.prog 24 #[.string a, .string b] w fun e w' => e = .returned (.int .i64 (ordS a b)) ∧ Below w.heap.size w w' := by
  unfold okS at ha hb
  exact order_any w a b (by omega) (by omega)
end Go.Proofs.YthnnnlbdbkdcaaaDoor
/- Nodes and prints as Lean's own data. -/
set_option linter.unusedVariables false
namespace Sw
open Go
/-- a node -/
structure Nd where
  kind : Int
  mode : Int
  time : Int
  data : ByteArray
/-- a print -/
structure Pr where
  kind : Int
  mode : Int
  time : Int
  size : Int
  sum : Int
def Nd.c (n : Nd) : Array Value := #[.int .i64 n.kind, .int .i64 n.mode, .int .u32 n.time, .string n.data]
def Pr.c (p : Pr) : Array Value := #[.int .i64 p.kind, .int .i64 p.mode, .int .u32 p.time, .int .i64 p.size, .int .u32 p.sum]
end Sw
/- Plain laws of layer 12: days, times and their parts. No program in sight. -/
set_option linter.unusedVariables false
namespace Sw
def leapI (y : Int) : Bool := decide (y % 4 = 0 ∧ y ≠ 2100)
def daysI (y m : Int) : Int :=
  if y < 1980 ∨ 2107 < y ∨ m < 1 ∨ 12 < m then 0 else if m = 2 then (if leapI y = true then 29 else 28) else if m = 4 ∨ m = 6 ∨ m = 9 ∨ m = 11 then 30 else 31
/-- a time's parts -/
structure Dt where
  y : Int
  m : Int
  d : Int
  h : Int
  mi : Int
  s : Int
/-- may these parts be? -/
def Dt.Ok (x : Dt) : Prop := 1 ≤ x.d ∧ x.d ≤ daysI x.y x.m ∧ 0 ≤ x.h ∧ x.h < 24 ∧ 0 ≤ x.mi ∧ x.mi < 60 ∧ 0 ≤ x.s ∧ x.s < 60 ∧ x.s % 2 = 0
instance (x : Dt) : Decidable x.Ok := by unfold Dt.Ok; exact inferInstance
def splitD (t : Int) : Dt := ⟨1980 + t / 33554432, t / 2097152 % 16, t / 65536 % 32, t / 2048 % 32, t / 32 % 64, 2 * (t % 32)⟩
def ofD (x : Dt) : Int := (((((x.y - 1980) * 16 + x.m) * 32 + x.d) * 32 + x.h) * 64 + x.mi) * 32 + x.s / 2
theorem daysI_le (y m : Int) : 0 ≤ daysI y m ∧ daysI y m ≤ 31 := by
  unfold daysI
  split
  · omega
  · split
    · split <;> omega
    · split <;> omega
theorem Dt.Ok.year {x : Dt} (h : x.Ok) : 1980 ≤ x.y ∧ x.y ≤ 2107 ∧ 1 ≤ x.m ∧ x.m ≤ 12 ∧ 1 ≤ x.d ∧ x.d ≤ 31 := by
  unfold Dt.Ok at h
  obtain ⟨h1, h2, _⟩ := h
  have h3 := daysI_le x.y x.m
  have h4 : ¬ (x.y < 1980 ∨ 2107 < x.y ∨ x.m < 1 ∨ 12 < x.m) := by
    intro h4
    unfold daysI at h2
    rw [if_pos h4] at h2
    omega
  omega
theorem ofD_lt {x : Dt} (h : x.Ok) : 0 ≤ ofD x ∧ ofD x < 4294967296 := by
  have hy := h.year
  unfold Dt.Ok at h
  unfold ofD
  omega
theorem splitD_ofD {x : Dt} (h : x.Ok) : splitD (ofD x) = x := by
  have hy := h.year
  unfold Dt.Ok at h
  unfold splitD ofD
  cases x
  simp only [Dt.mk.injEq] at *
  omega
theorem ofD_splitD (t : Int) (h0 : 0 ≤ t) (h1 : t < 4294967296) : ofD (splitD t) = t := by
  unfold splitD ofD
  simp only
  omega
end Sw

/- Contracts of the days of a month, and of whether parts may be. -/
set_option linter.unusedVariables false
namespace Go.Proofs.YthnnnlbdbkdcaaaDoor
open Go.RowKit
open Sw
theorem leap_any (w : World) (y : Int) (h0 : -9223372036854775808 ≤ y) (h1 : y ≤ 9223372036854775807) :
    Calls Tryd.prog 123 #[.int .i64 y] w fun e w' => e = .returned (.bool (leapI y)) ∧ w = w' := by
  have e4 : (y.tmod 4 == 0) = decide (y % 4 = 0) := by
    rw [Bool.eq_iff_iff, beq_iff_eq, decide_eq_true_iff, ← Int.dvd_iff_tmod_eq_zero, ← Int.dvd_iff_emod_eq_zero]
  by_cases h4 : y % 4 = 0
  · have ht : (y.tmod 4 == 0) = true := by rw [e4]; simpa using h4
    by_cases h5 : y = 2100
    · have hl : leapI y = false := by unfold leapI; simp [h5]
      have HL := Lib.hid hl
      clear hl e4
      go_enter Tryd.func123, Tryd.ntmps123
      go_wp2_with fail
      go_ret
      rw [HL.out]; exact ⟨by simp, rfl⟩
    · have hl : leapI y = true := by unfold leapI; simp [h4, h5]
      have hn : (y != 2100) = true := by simp [h5]
      have HL := Lib.hid hl
      clear hl e4
      go_enter Tryd.func123, Tryd.ntmps123
      go_wp2_with fail
      go_ret
      rw [HL.out]; exact ⟨by simp, rfl⟩
  · have ht : (y.tmod 4 == 0) = false := by rw [e4]; simpa using h4
    have hl : leapI y = false := by unfold leapI; simp [h4]
    have HL := Lib.hid hl
    clear hl e4
    go_enter Tryd.func123, Tryd.ntmps123
    go_wp2_with fail
    go_ret
    rw [HL.out]; exact ⟨by simp, rfl⟩
set_option maxHeartbeats 1000000 in
theorem days_any (w : World) (y m : Int) (h0 : -9223372036854775808 ≤ y) (h1 : y ≤ 9223372036854775807) (m0 : -9223372036854775808 ≤ m) (m1 : m ≤ 9223372036854775807) :
    Calls Tryd.prog 112 #[.int .i64 y, .int .i64 m] w fun e w' => e = .returned (.int .i64 (daysI y m)) ∧ Below w.heap.size w w' := by
  by_cases hbad : y < 1980 ∨ 2107 < y ∨ m < 1 ∨ 12 < m
  · have hd : daysI y m = 0 := by unfold daysI; rw [if_pos hbad]
    rw [hd]
    rcases Classical.em (y < 1980) with h | h
    · go_enter Tryd.func112, Tryd.ntmps112
      go_wp2_with fail
      go_ret
      exact ⟨rfl, Below.refl _ _⟩
    rcases Classical.em (2107 < y) with h2 | h2
    · go_enter Tryd.func112, Tryd.ntmps112
      go_wp2_with fail
      go_ret
      exact ⟨rfl, Below.refl _ _⟩
    rcases Classical.em (m < 1) with h3 | h3
    · go_enter Tryd.func112, Tryd.ntmps112
      go_wp2_with fail
      go_ret
      exact ⟨rfl, Below.refl _ _⟩
    have h4 : 12 < m := by omega
    go_enter Tryd.func112, Tryd.ntmps112
    go_wp2_with fail
    go_ret
    exact ⟨rfl, Below.refl _ _⟩
  · have hy0 : ¬ y < 1980 := by omega
    have hy1 : ¬ 2107 < y := by omega
    have HD := Lib.hid (show daysI y m = _ by unfold daysI; rw [if_neg hbad])
    have L := Lib.hid (fun W => leap_any W y h0 h1)
    have hm : m = 1 ∨ m = 2 ∨ m = 3 ∨ m = 4 ∨ m = 5 ∨ m = 6 ∨ m = 7 ∨ m = 8 ∨ m = 9 ∨ m = 10 ∨ m = 11 ∨ m = 12 := by omega
    clear hbad m0 m1 h0 h1
    rcases hm with rfl | rfl | rfl | rfl | rfl | rfl | rfl | rfl | rfl | rfl | rfl | rfl
    case inr.inl =>
      rcases hl : leapI y with _ | _
      all_goals
        rw [hl] at HD L
        have hd := HD.out
        simp at hd
        rw [hd]
        clear hd HD
        go_enter Tryd.func112, Tryd.ntmps112
        go_wp2_with (go_at_call 123; refine (L.out _).mono ?_; rintro e w' ⟨rfl, rfl⟩)
        go_ret
        exact ⟨rfl, (Below.refl _ _).alloc (Nat.le_refl _) _⟩
    all_goals
      have hd := HD.out
      simp at hd
      rw [hd]
      clear hd HD L
      go_enter Tryd.func112, Tryd.ntmps112
      go_wp2_with fail
      go_ret
      exact ⟨rfl, (Below.refl _ _).alloc (Nat.le_refl _) _⟩
end Go.Proofs.YthnnnlbdbkdcaaaDoor
/- Contracts of the parts of a time, and of whether parts may be. -/
set_option linter.unusedVariables false
namespace Go.Proofs.YthnnnlbdbkdcaaaDoor
open Go.RowKit
open Sw
def Dt.v (x : Dt) : Array Value := #[.int .i64 x.y, .int .i64 x.m, .int .i64 x.d, .int .i64 x.h, .int .i64 x.mi, .int .i64 x.s]
/-- numbers that an int64 has -/
structure Dt.In (x : Dt) : Prop where
  y0 : -9223372036854775808 ≤ x.y
  y1 : x.y ≤ 9223372036854775807
  m0 : -9223372036854775808 ≤ x.m
  m1 : x.m ≤ 9223372036854775807
  d0 : -9223372036854775808 ≤ x.d
  d1 : x.d ≤ 9223372036854775807
  h0 : -9223372036854775808 ≤ x.h
  h1 : x.h ≤ 9223372036854775807
  i0 : -9223372036854775808 ≤ x.mi
  i1 : x.mi ≤ 9223372036854775807
  s0 : -9223372036854775808 ≤ x.s
  s1 : x.s ≤ 9223372036854775807
theorem splitD_in (t : Int) (h0 : 0 ≤ t) (h1 : t < 4294967296) : Dt.In (splitD t) := by
  constructor <;> (simp only [splitD]; omega)
theorem and_mask (x : Int) (k : Nat) (m : Int) (hm : m = ((2 ^ k - 1 : Nat) : Int)) (hk : 2 ^ k - 1 < 4294967296) (h0 : 0 ≤ x) (h1 : x < 4294967296) : bits .and .u32 x m = x % ((2 ^ k : Nat) : Int) := by
  obtain ⟨x, rfl⟩ := Int.eq_ofNat_of_zero_le h0
  rw [hm, u32_and_nat x (2 ^ k - 1) (by omega) hk, Nat.and_two_pow_sub_one_eq_mod]
  exact Int.natCast_emod _ _

theorem take_25 (w : World) (g : Nat) (t : Int) (h0 : 0 ≤ t) (h1 : t < 4294967296) (h : w.cell? ⟨g, 0, none⟩ = some (.int .u32 t)) :
    Calls Tryd.prog 110 #[.int .i64 25, .int .i64 7, .pointer (some ⟨g, 0, none⟩)] w fun e w' => e = .returned (.int .i64 (t / 33554432 % 128)) ∧ ∃ m, w' = w.drewN m := by
  have e : bits .and .u32 (t / 33554432) 127 = t / 33554432 % 128 := and_mask _ 7 _ rfl (by decide) (by omega) (by omega)
  go_enter Tryd.func110, Tryd.ntmps110
  go_wp2_with fail
  go_quiet (fail)
  go_wp2_with fail
  go_ret
  exact ⟨rfl, nq, rfl⟩
theorem take_21 (w : World) (g : Nat) (t : Int) (h0 : 0 ≤ t) (h1 : t < 4294967296) (h : w.cell? ⟨g, 0, none⟩ = some (.int .u32 t)) :
    Calls Tryd.prog 110 #[.int .i64 21, .int .i64 4, .pointer (some ⟨g, 0, none⟩)] w fun e w' => e = .returned (.int .i64 (t / 2097152 % 16)) ∧ ∃ m, w' = w.drewN m := by
  have e : bits .and .u32 (t / 2097152) 15 = t / 2097152 % 16 := and_mask _ 4 _ rfl (by decide) (by omega) (by omega)
  go_enter Tryd.func110, Tryd.ntmps110
  go_wp2_with fail
  go_quiet (fail)
  go_wp2_with fail
  go_ret
  exact ⟨rfl, nq, rfl⟩
theorem take_16 (w : World) (g : Nat) (t : Int) (h0 : 0 ≤ t) (h1 : t < 4294967296) (h : w.cell? ⟨g, 0, none⟩ = some (.int .u32 t)) :
    Calls Tryd.prog 110 #[.int .i64 16, .int .i64 5, .pointer (some ⟨g, 0, none⟩)] w fun e w' => e = .returned (.int .i64 (t / 65536 % 32)) ∧ ∃ m, w' = w.drewN m := by
  have e : bits .and .u32 (t / 65536) 31 = t / 65536 % 32 := and_mask _ 5 _ rfl (by decide) (by omega) (by omega)
  go_enter Tryd.func110, Tryd.ntmps110
  go_wp2_with fail
  go_quiet (fail)
  go_wp2_with fail
  go_ret
  exact ⟨rfl, nq, rfl⟩
theorem take_11 (w : World) (g : Nat) (t : Int) (h0 : 0 ≤ t) (h1 : t < 4294967296) (h : w.cell? ⟨g, 0, none⟩ = some (.int .u32 t)) :
    Calls Tryd.prog 110 #[.int .i64 11, .int .i64 5, .pointer (some ⟨g, 0, none⟩)] w fun e w' => e = .returned (.int .i64 (t / 2048 % 32)) ∧ ∃ m, w' = w.drewN m := by
  have e : bits .and .u32 (t / 2048) 31 = t / 2048 % 32 := and_mask _ 5 _ rfl (by decide) (by omega) (by omega)
  go_enter Tryd.func110, Tryd.ntmps110
  go_wp2_with fail
  go_quiet (fail)
  go_wp2_with fail
  go_ret
  exact ⟨rfl, nq, rfl⟩
theorem take_5 (w : World) (g : Nat) (t : Int) (h0 : 0 ≤ t) (h1 : t < 4294967296) (h : w.cell? ⟨g, 0, none⟩ = some (.int .u32 t)) :
    Calls Tryd.prog 110 #[.int .i64 5, .int .i64 6, .pointer (some ⟨g, 0, none⟩)] w fun e w' => e = .returned (.int .i64 (t / 32 % 64)) ∧ ∃ m, w' = w.drewN m := by
  have e : bits .and .u32 (t / 32) 63 = t / 32 % 64 := and_mask _ 6 _ rfl (by decide) (by omega) (by omega)
  go_enter Tryd.func110, Tryd.ntmps110
  go_wp2_with fail
  go_quiet (fail)
  go_wp2_with fail
  go_ret
  exact ⟨rfl, nq, rfl⟩
theorem take_0 (w : World) (g : Nat) (t : Int) (h0 : 0 ≤ t) (h1 : t < 4294967296) (h : w.cell? ⟨g, 0, none⟩ = some (.int .u32 t)) :
    Calls Tryd.prog 110 #[.int .i64 0, .int .i64 5, .pointer (some ⟨g, 0, none⟩)] w fun e w' => e = .returned (.int .i64 (t % 32)) ∧ ∃ m, w' = w.drewN m := by
  have e : bits .and .u32 (t) 31 = t % 32 := and_mask _ 5 _ rfl (by decide) (by omega) (by omega)
  go_enter Tryd.func110, Tryd.ntmps110
  go_wp2_with fail
  go_quiet (fail)
  go_wp2_with fail
  go_ret
  exact ⟨rfl, nq, rfl⟩
set_option maxHeartbeats 1000000 in
theorem split_any (w : World) (t : Int) (h0 : 0 ≤ t) (h1 : t < 4294967296) :
    Calls Tryd.prog 92 #[.int .u32 t] w fun e w' => e = .returned (.agg (Dt.v (splitD t))) ∧ Below w.heap.size w w' := by
  have hc : ((w.alloc (Obj.cells #[Value.int IntKind.u32 t] 28)).alloc (Obj.cells #[Value.int IntKind.i64 0, Value.int IntKind.i64 0, Value.int IntKind.i64 0, Value.int IntKind.i64 0, Value.int IntKind.i64 0, Value.int IntKind.i64 0] 126)).cell? ⟨w.heap.size, 0, none⟩ = some (.int .u32 t) := Blk.cell ((Blk.new w _ _).alloc _) 0
  have hg : Blk ((w.alloc (Obj.cells #[Value.int IntKind.u32 t] 28)).alloc (Obj.cells #[Value.int IntKind.i64 0, Value.int IntKind.i64 0, Value.int IntKind.i64 0, Value.int IntKind.i64 0, Value.int IntKind.i64 0, Value.int IntKind.i64 0] 126)) (w.heap.size + 1) 126 #[Value.int IntKind.i64 0, Value.int IntKind.i64 0, Value.int IntKind.i64 0, Value.int IntKind.i64 0, Value.int IntKind.i64 0, Value.int IntKind.i64 0] := by
    have h := Blk.new (w.alloc (Obj.cells #[Value.int IntKind.u32 t] 28)) 126 #[Value.int IntKind.i64 0, Value.int IntKind.i64 0, Value.int IntKind.i64 0, Value.int IntKind.i64 0, Value.int IntKind.i64 0, Value.int IntKind.i64 0]
    rw [World.size_alloc] at h
    exact h
  have hb : Below w.heap.size w ((w.alloc (Obj.cells #[Value.int IntKind.u32 t] 28)).alloc (Obj.cells #[Value.int IntKind.i64 0, Value.int IntKind.i64 0, Value.int IntKind.i64 0, Value.int IntKind.i64 0, Value.int IntKind.i64 0, Value.int IntKind.i64 0] 126)) := ((Below.refl w.heap.size w).alloc (Nat.le_refl _) _).alloc (by simp) _
  have HB := Lib.hid hb; clear hb
  go_enter Tryd.func92, Tryd.ntmps92
  go_wp2_with fail
  have HG := Lib.hid hg; clear hg
  have HC := Lib.hid hc; clear hc
  go_wp2_with (go_at_call 110; first | (((with_reducible refine (take_25 _ w.heap.size t h0 h1 ?_).mono ?_); exact HC.out; rintro e w' ⟨rfl, n25, rfl⟩)) | (((with_reducible refine (take_21 _ w.heap.size t h0 h1 ?_).mono ?_); exact HC.out; rintro e w' ⟨rfl, n21, rfl⟩)) | (((with_reducible refine (take_16 _ w.heap.size t h0 h1 ?_).mono ?_); exact HC.out; rintro e w' ⟨rfl, n16, rfl⟩)) | (((with_reducible refine (take_11 _ w.heap.size t h0 h1 ?_).mono ?_); exact HC.out; rintro e w' ⟨rfl, n11, rfl⟩)) | (((with_reducible refine (take_5 _ w.heap.size t h0 h1 ?_).mono ?_); exact HC.out; rintro e w' ⟨rfl, n5, rfl⟩)) | (((with_reducible refine (take_0 _ w.heap.size t h0 h1 ?_).mono ?_); exact HC.out; rintro e w' ⟨rfl, n0, rfl⟩)))
  have e0 : t / 33554432 % 128 = t / 33554432 := by omega
  have hrow : Dt.v (splitD t) = #[Value.int IntKind.i64 (1980 + t / 33554432 % 128), Value.int IntKind.i64 (t / 2097152 % 16), Value.int IntKind.i64 (t / 65536 % 32), Value.int IntKind.i64 (t / 2048 % 32), Value.int IntKind.i64 (t / 32 % 64), Value.int IntKind.i64 (2 * (t % 32))] := by
    rw [e0]; rfl
  rw [hrow]
  refine bodyPost_ret (results_cell_row rfl _ _ (w.heap.size + 1) 126 #[Value.int IntKind.i64 (1980 + t / 33554432 % 128), Value.int IntKind.i64 (t / 2097152 % 16), Value.int IntKind.i64 (t / 65536 % 32), Value.int IntKind.i64 (t / 2048 % 32), Value.int IntKind.i64 (t / 32 % 64), Value.int IntKind.i64 (2 * (t % 32))] (0, 0) _ rfl (((((((HG.out.drewN (n25 + n21 + n16 + n11 + n5 + n0)).put 0 (Value.int IntKind.i64 (1980 + t / 33554432 % 128))).put 1 (Value.int IntKind.i64 (t / 2097152 % 16))).put 2 (Value.int IntKind.i64 (t / 65536 % 32))).put 3 (Value.int IntKind.i64 (t / 2048 % 32))).put 4 (Value.int IntKind.i64 (t / 32 % 64))).put 5 (Value.int IntKind.i64 (2 * (t % 32)))) Tryd.underlying126 rfl (by kernel_rfl)) rfl ⟨rfl, ((((((below_drewN HB.out (n25 + n21 + n16 + n11 + n5 + n0)).setCell (by simp) _).setCell (by simp) _).setCell (by simp) _).setCell (by simp) _).setCell (by simp) _).setCell (by simp) _⟩
theorem right1_any (w : World) (n k : Int) (h0 : -9223372036854775808 ≤ n) (h1 : n ≤ 9223372036854775807) :
    Calls Tryd.prog 111 #[.int .i64 n, .int .i64 k] w fun e w' => e = .returned (.bool (decide (0 ≤ n ∧ n < k))) ∧ w = w' := by
  by_cases h : 0 ≤ n
  · have hd : decide (0 ≤ n ∧ n < k) = decide (n < k) := by simp [h]
    rw [hd]
    clear hd
    go_enter Tryd.func111, Tryd.ntmps111
    go_wp2_with fail
    go_ret
    exact ⟨rfl, rfl⟩
  · have hd : decide (0 ≤ n ∧ n < k) = false := by simp [h]
    rw [hd]
    clear hd
    go_enter Tryd.func111, Tryd.ntmps111
    go_wp2_with fail
    go_ret
    exact ⟨rfl, rfl⟩
def TimeAt (w : World) (g : Nat) (t : TypeId) (x : Dt) (W : World) : Prop := Blk W g t (Dt.v x) ∧ Below w.heap.size w W
theorem TimeAt.cells {w W : World} {g : Nat} {t : TypeId} {x : Dt} (h : TimeAt w g t x W) : W.cell? ⟨g, 0, none⟩ = some (.int .i64 x.y) ∧ W.cell? ⟨g, 1, none⟩ = some (.int .i64 x.m) ∧ W.cell? ⟨g, 2, none⟩ = some (.int .i64 x.d) ∧ W.cell? ⟨g, 3, none⟩ = some (.int .i64 x.h) ∧ W.cell? ⟨g, 4, none⟩ = some (.int .i64 x.mi) ∧ W.cell? ⟨g, 5, none⟩ = some (.int .i64 x.s) ∧ TimeAt w g t x W :=
  ⟨h.1.cell 0, h.1.cell 1, h.1.cell 2, h.1.cell 3, h.1.cell 4, h.1.cell 5, h⟩
theorem TimeAt.below {w W W' : World} {g : Nat} {t : TypeId} {x : Dt} (h : TimeAt w g t x W) (hb : Below W.heap.size W W') : TimeAt w g t x W' := ⟨h.1.below hb h.1.lt, h.2.trans (hb.mono h.2.size)⟩
set_option maxRecDepth 100000 in
set_option maxHeartbeats 40000000 in
theorem dosRt_any (w : World) (x : Dt) (hx : Dt.In x) :
    Calls Tryd.prog 93 #[.agg (Dt.v x)] w fun e w' => e = .returned (.bool (decide x.Ok)) ∧ Below w.heap.size w w' := by
  have hT : TimeAt w w.heap.size 126 x (w.alloc (Obj.cells (Dt.v x) 126)) := ⟨Blk.new _ _ _, (Below.refl _ _).alloc (Nat.le_refl _) _⟩
  have HTD := Lib.hid (show TimeAt w w.heap.size 126 x (w.alloc (Obj.cells (Dt.v x) 126)).drew from ⟨hT.1, hT.2.drew⟩)
  have hD := fun W => days_any W x.y x.m hx.y0 hx.y1 hx.m0 hx.m1
  have hdl := daysI_le x.y x.m
  have hOk : x.Ok = (1 ≤ x.d ∧ x.d ≤ daysI x.y x.m ∧ 0 ≤ x.h ∧ x.h < 24 ∧ 0 ≤ x.mi ∧ x.mi < 60 ∧ 0 ≤ x.s ∧ x.s < 60 ∧ x.s % 2 = 0) := rfl
  generalize hdy : daysI x.y x.m = dy at *
  have HD := Lib.hid hD; clear hD
  have HOK := Lib.hid hOk; clear hOk
  have h3 := fun W => right1_any W x.h 24 hx.h0 hx.h1
  have h4 := fun W => right1_any W x.mi 60 hx.i0 hx.i1
  have h5 := fun W => right1_any W x.s 60 hx.s0 hx.s1
  have hm2 : (x.s.tmod 2 == 0) = decide (x.s % 2 = 0) := by rw [Bool.eq_iff_iff, beq_iff_eq, decide_eq_true_iff, ← Int.dvd_iff_tmod_eq_zero, ← Int.dvd_iff_emod_eq_zero]
  have HM2 := Lib.hid hm2; clear hm2
  clear hT hdy
  have q0 : ∀ n : Held (TimeAt w w.heap.size 126 x), (HeldW n).cell? ⟨w.heap.size, 0, none⟩ = some (.int .i64 x.y) := fun n => (HeldW_spec n).1.cell 0
  have q1 : ∀ n : Held (TimeAt w w.heap.size 126 x), (HeldW n).cell? ⟨w.heap.size, 1, none⟩ = some (.int .i64 x.m) := fun n => (HeldW_spec n).1.cell 1
  have q2 : ∀ n : Held (TimeAt w w.heap.size 126 x), (HeldW n).cell? ⟨w.heap.size, 2, none⟩ = some (.int .i64 x.d) := fun n => (HeldW_spec n).1.cell 2
  have q3 : ∀ n : Held (TimeAt w w.heap.size 126 x), (HeldW n).cell? ⟨w.heap.size, 3, none⟩ = some (.int .i64 x.h) := fun n => (HeldW_spec n).1.cell 3
  have q4 : ∀ n : Held (TimeAt w w.heap.size 126 x), (HeldW n).cell? ⟨w.heap.size, 4, none⟩ = some (.int .i64 x.mi) := fun n => (HeldW_spec n).1.cell 4
  have q5 : ∀ n : Held (TimeAt w w.heap.size 126 x), (HeldW n).cell? ⟨w.heap.size, 5, none⟩ = some (.int .i64 x.s) := fun n => (HeldW_spec n).1.cell 5
  haveI : Nonempty (Held (TimeAt w w.heap.size 126 x)) := held_some HTD.out
  obtain ⟨y0, y1, m0, m1, d0, d1, hh0, hh1, i0, i1, s0, s1⟩ := hx
  by_cases c0 : 1 ≤ x.d
  · skip
    by_cases c1 : x.d ≤ dy
    · skip
      by_cases c2 : 0 ≤ x.h ∧ x.h < 24
      · skip
        have H3 := Lib.hid (fun W => by have k := h3 W; rw [decide_eq_true c2] at k; exact k)
        by_cases c3 : 0 ≤ x.mi ∧ x.mi < 60
        · skip
          have H4 := Lib.hid (fun W => by have k := h4 W; rw [decide_eq_true c3] at k; exact k)
          by_cases c4 : 0 ≤ x.s ∧ x.s < 60
          · skip
            have H5 := Lib.hid (fun W => by have k := h5 W; rw [decide_eq_true c4] at k; exact k)
            by_cases c5 : x.s % 2 = 0
            · skip
              have t2 : (x.s.tmod 2 == 0) = true := by rw [HM2.out]; exact decide_eq_true c5
              have HR := Lib.hid (show decide x.Ok = true by rw [decide_eq_true_iff, HOK.out]; omega)
              go_enter Tryd.func93, Tryd.ntmps93
              go_wp2_with fail
              refine wp_region_class (TimeAt w w.heap.size 126 x) (by kernel_rfl) (by kernel_rfl) HTD.out ?_
              repeat (go_big_quiet_step (first | with_reducible exact held_below (fun _ _ => TimeAt.below) (HD.out _) | with_reducible exact held_same (H3.out _) | with_reducible exact held_same (H4.out _) | with_reducible exact held_same (H5.out _)))
              refine wpQuiet_nil ?_
              rintro _ ⟨n, rfl⟩
              go_wp2_with fail
              go_ret
              rw [HR.out]
              exact ⟨by first | (simp; done) | (simp; omega), (HeldW_spec n).2⟩
            · skip
              have t2 : (x.s.tmod 2 == 0) = false := by rw [HM2.out]; exact decide_eq_false c5
              have HR := Lib.hid (show decide x.Ok = false by rw [decide_eq_false_iff_not, HOK.out]; omega)
              go_enter Tryd.func93, Tryd.ntmps93
              go_wp2_with fail
              refine wp_region_class (TimeAt w w.heap.size 126 x) (by kernel_rfl) (by kernel_rfl) HTD.out ?_
              repeat (go_big_quiet_step (first | with_reducible exact held_below (fun _ _ => TimeAt.below) (HD.out _) | with_reducible exact held_same (H3.out _) | with_reducible exact held_same (H4.out _) | with_reducible exact held_same (H5.out _)))
              refine wpQuiet_nil ?_
              rintro _ ⟨n, rfl⟩
              go_wp2_with fail
              go_ret
              rw [HR.out]
              exact ⟨by first | (simp; done) | (simp; omega), (HeldW_spec n).2⟩
          · skip
            have H5 := Lib.hid (fun W => by have k := h5 W; rw [decide_eq_false c4] at k; exact k)
            have HR := Lib.hid (show decide x.Ok = false by rw [decide_eq_false_iff_not, HOK.out]; omega)
            go_enter Tryd.func93, Tryd.ntmps93
            go_wp2_with fail
            refine wp_region_class (TimeAt w w.heap.size 126 x) (by kernel_rfl) (by kernel_rfl) HTD.out ?_
            repeat (go_big_quiet_step (first | with_reducible exact held_below (fun _ _ => TimeAt.below) (HD.out _) | with_reducible exact held_same (H3.out _) | with_reducible exact held_same (H4.out _) | with_reducible exact held_same (H5.out _)))
            refine wpQuiet_nil ?_
            rintro _ ⟨n, rfl⟩
            go_wp2_with fail
            go_ret
            rw [HR.out]
            exact ⟨by first | (simp; done) | (simp; omega), (HeldW_spec n).2⟩
        · skip
          have H4 := Lib.hid (fun W => by have k := h4 W; rw [decide_eq_false c3] at k; exact k)
          have HR := Lib.hid (show decide x.Ok = false by rw [decide_eq_false_iff_not, HOK.out]; omega)
          go_enter Tryd.func93, Tryd.ntmps93
          go_wp2_with fail
          refine wp_region_class (TimeAt w w.heap.size 126 x) (by kernel_rfl) (by kernel_rfl) HTD.out ?_
          repeat (go_big_quiet_step (first | with_reducible exact held_below (fun _ _ => TimeAt.below) (HD.out _) | with_reducible exact held_same (H3.out _) | with_reducible exact held_same (H4.out _) | with_reducible exact held_same (H5.out _)))
          refine wpQuiet_nil ?_
          rintro _ ⟨n, rfl⟩
          go_wp2_with fail
          go_ret
          rw [HR.out]
          exact ⟨by first | (simp; done) | (simp; omega), (HeldW_spec n).2⟩
      · skip
        have H3 := Lib.hid (fun W => by have k := h3 W; rw [decide_eq_false c2] at k; exact k)
        have HR := Lib.hid (show decide x.Ok = false by rw [decide_eq_false_iff_not, HOK.out]; omega)
        go_enter Tryd.func93, Tryd.ntmps93
        go_wp2_with fail
        refine wp_region_class (TimeAt w w.heap.size 126 x) (by kernel_rfl) (by kernel_rfl) HTD.out ?_
        repeat (go_big_quiet_step (first | with_reducible exact held_below (fun _ _ => TimeAt.below) (HD.out _) | with_reducible exact held_same (H3.out _) | with_reducible exact held_same (H4.out _) | with_reducible exact held_same (H5.out _)))
        refine wpQuiet_nil ?_
        rintro _ ⟨n, rfl⟩
        go_wp2_with fail
        go_ret
        rw [HR.out]
        exact ⟨by first | (simp; done) | (simp; omega), (HeldW_spec n).2⟩
    · skip
      have t1f : decide (x.d ≤ dy) = false := decide_eq_false c1
      have HR := Lib.hid (show decide x.Ok = false by rw [decide_eq_false_iff_not, HOK.out]; omega)
      go_enter Tryd.func93, Tryd.ntmps93
      go_wp2_with fail
      refine wp_region_class (TimeAt w w.heap.size 126 x) (by kernel_rfl) (by kernel_rfl) HTD.out ?_
      repeat (go_big_quiet_step (first | with_reducible exact held_below (fun _ _ => TimeAt.below) (HD.out _) | with_reducible exact held_same (H3.out _) | with_reducible exact held_same (H4.out _) | with_reducible exact held_same (H5.out _)))
      refine wpQuiet_nil ?_
      rintro _ ⟨n, rfl⟩
      go_wp2_with fail
      go_ret
      rw [HR.out]
      exact ⟨by first | (simp; done) | (simp; omega), (HeldW_spec n).2⟩
  · skip
    have t0f : decide (1 ≤ x.d) = false := decide_eq_false c0
    have HR := Lib.hid (show decide x.Ok = false by rw [decide_eq_false_iff_not, HOK.out]; omega)
    go_enter Tryd.func93, Tryd.ntmps93
    go_wp2_with fail
    refine wp_region_class (TimeAt w w.heap.size 126 x) (by kernel_rfl) (by kernel_rfl) HTD.out ?_
    repeat (go_big_quiet_step (first | with_reducible exact held_below (fun _ _ => TimeAt.below) (HD.out _) | with_reducible exact held_same (H3.out _) | with_reducible exact held_same (H4.out _) | with_reducible exact held_same (H5.out _)))
    refine wpQuiet_nil ?_
    rintro _ ⟨n, rfl⟩
    go_wp2_with fail
    go_ret
    rw [HR.out]
    exact ⟨by simp, (HeldW_spec n).2⟩
end Go.Proofs.YthnnnlbdbkdcaaaDoor
