/- Several texts, joined for the limit of sixty files; each one opens with its own comment. -/
import Derived.Test.YthnnnlbdbkdcaaaDoorJoin11
import Derived.Deep.WholeRow
/- Contracts of dos.Split, dos.Right and dos.Of. -/
set_option linter.unusedVariables false
namespace Go.Proofs.YthnnnlbdbkdcaaaDoor
open Go.RowKit
open Sw
theorem dosRight_any (w : World) (t : Int) (h0 : 0 ≤ t) (h1 : t < 4294967296) :
    Calls Tryd.prog 68 #[.int .u32 t] w fun e w' => e = .returned (.bool (decide (splitD t).Ok)) ∧ Below w.heap.size w w' := by
  have H1 := Lib.hid (fun W => split_any W t h0 h1)
  have H2 := Lib.hid (fun W => dosRt_any W (splitD t) (splitD_in t h0 h1))
  generalize splitD t = x at *
  go_enter Tryd.func68, Tryd.ntmps68
  go_wp2_with (first | (go_at_call 92; refine (H1.out _).mono ?_; rintro e w1 ⟨rfl, hb1⟩) | (go_at_call 93; refine (H2.out _).mono ?_; rintro e w2 ⟨rfl, hb2⟩))
  go_ret
  exact ⟨rfl, hb1.trans (hb2.mono hb1.size)⟩
theorem blk_setRow {w : World} {g : Nat} {t : TypeId} {cs : Array Value} (h : Blk w g t cs) (ds : Array Value) : Blk (w.setRow g ds) g t ds := setRow_heap w g cs ds _ _ h
theorem below_setRow {B : Nat} {a w : World} {g : Nat} (h : Below B a w) (hg : B ≤ g) (ds : Array Value) : Below B a (w.setRow g ds) :=
  h.trans ⟨rfl, rfl, rfl, by simp, fun i hi => setRow_other w g i ds (by omega)⟩
theorem size_of_alloc {w w1 : World} {o : Obj} (h : Below (w.alloc o).heap.size (w.alloc o) w1) : w.heap.size < w1.heap.size := by
  have := h.size
  rw [World.size_alloc] at this
  omega
theorem timeInfo : (Tryd.prog.info? 126).map (·.size) = some 6 := by kernel_rfl
/-- the parts, or none -/
def zeroD : Dt := ⟨0, 0, 0, 0, 0, 0⟩
def splitOr (t : Int) : Dt := if (splitD t).Ok then splitD t else zeroD
theorem or_step (i : Nat) (X c : Int) (hX : 0 ≤ X) (hc : 0 ≤ c) (hi : c < ((2 ^ i : Nat) : Int)) (hlt : ((2 ^ i : Nat) : Int) * X + c < 4294967296) : bits .or .u32 (((2 ^ i : Nat) : Int) * X) c = ((2 ^ i : Nat) : Int) * X + c := by
  obtain ⟨X, rfl⟩ := Int.eq_ofNat_of_zero_le hX
  obtain ⟨c, rfl⟩ := Int.eq_ofNat_of_zero_le hc
  have hc' : c < 2 ^ i := by omega
  have hs : 2 ^ i * X + c < 4294967296 := by
    have e : ((2 ^ i * X + c : Nat) : Int) = ((2 ^ i : Nat) : Int) * (X : Int) + (c : Int) := by rw [Int.natCast_add, Int.natCast_mul]
    rw [← e] at hlt
    omega
  have h := u32_or_nat (2 ^ i * X) c (by omega) (by omega)
  rw [← Nat.two_pow_add_eq_or_of_lt hc' X] at h
  rw [Int.natCast_add, Int.natCast_mul] at h
  exact h
theorem or_add (i : Nat) (K X Y c : Int) (hK : K = ((2 ^ i : Nat) : Int)) (hY : Y = X * K) (hX : 0 ≤ X) (hc : 0 ≤ c) (hi : c < K) (hlt : Y + c < 4294967296) : bits .or .u32 Y c = Y + c := by
  rw [hY, Int.mul_comm X K] at hlt ⊢
  rw [hK] at hi hlt ⊢
  exact or_step i X c hX hc hi hlt
end Go.Proofs.YthnnnlbdbkdcaaaDoor
/- A tree as a row of entries that rises: plain. -/
set_option linter.unusedVariables false
set_option linter.unusedSimpArgs false
namespace Sw
open Go.Proofs.YthnnnlbdbkdcaaaDoor (partsS)
abbrev NE := ByteArray × Nd
/-- no node -/
def ndZ : Nd := ⟨0, 0, 0, ⟨#[]⟩⟩
theorem nd_eq_iff (n : Nd) : n = ndZ ↔ n.kind = 0 ∧ n.mode = 0 ∧ n.time = 0 ∧ n.data = ⟨#[]⟩ := by
  obtain ⟨a, b, c, d⟩ := n
  unfold ndZ
  constructor
  · intro h
    injection h with h1 h2 h3 h4
    exact ⟨h1, h2, h3, h4⟩
  · rintro ⟨rfl, rfl, rfl, rfl⟩
    rfl
/-- may a node be? -/
def nodeR (n : Nd) : Int :=
  if ¬ n.kind = 0 ∧ ¬ n.kind = 1 ∧ ¬ n.kind = 2 then 8
  else if (n.kind = 0 ∧ ¬ (n.mode = 0 ∧ n.time = 0 ∧ n.data.data.toList = [])) ∨ (n.kind = 2 ∧ (¬ n.data.data.toList = [] ∨ ¬ n.time = 0)) then 1
  else if ¬ (0 ≤ n.mode ∧ n.mode ≤ 511) then 12
  else if n.kind = 1 ∧ ¬ (splitD n.time).Ok then 13
  else if (65000 : Int) < n.data.size then 4
  else 0
def getT (xs : List NE) (p : ByteArray) : Nd := (getN ordS p xs).getD ndZ
/-- is something under a path? -/
def holdsT (xs : List NE) (p : ByteArray) : Bool := match (xs.drop (lbN ordS p xs)).find? (fun e => !decide (e.1 = p)) with
  | none => false
  | some e => inS (upsS e.1) p
def parentT (xs : List NE) (p : ByteArray) : Int :=
  if parentS p = ⟨#[]⟩ then 0 else if (getT xs (parentS p)).kind = 0 then 7 else if (getT xs (parentS p)).kind = 2 then 0 else 8
def mayT (xs : List NE) (p : ByteArray) (n : Nd) : Int :=
  if rightL p.data.toList = false then 5
  else if n.kind = 0 then 1
  else if ¬ nodeR n = 0 then nodeR n
  else if ¬ parentT xs p = 0 then parentT xs p
  else if ¬ n.kind = 2 ∧ holdsT xs p = true then 8
  else if (getT xs p).kind = 0 ∧ 500 ≤ xs.length then 4
  else 0
def putT (xs : List NE) (p : ByteArray) (n : Nd) : List NE := if mayT xs p n = 0 then putN ordS p n xs else xs
def whyDrop (xs : List NE) (p : ByteArray) : Int := if (getT xs p).kind = 0 then 7 else if holdsT xs p = true then 8 else 0
def dropT (xs : List NE) (p : ByteArray) : List NE := if whyDrop xs p = 0 then dropN ordS p xs else xs
end Sw
/- node.mode, node.Right (at a node that is one). -/
set_option linter.unusedVariables false
set_option linter.unusedSimpArgs false
namespace Go.Proofs.YthnnnlbdbkdcaaaDoor
open Go Go.RowKit
open Sw
theorem nodeMode_any (w : World) (m : Int) :
    Calls Tryd.prog 67 #[.int .i64 m] w fun e w' => e = .returned (.bool (decide (0 ≤ m ∧ m ≤ 511))) ∧ w = w' := by
  by_cases h1 : 0 ≤ m
  · by_cases h2 : m ≤ 511
    · have hd : decide (0 ≤ m ∧ m ≤ 511) = true := by rw [decide_eq_true_eq]; exact ⟨h1, h2⟩
      rw [hd]
      go_enter Tryd.func67, Tryd.ntmps67
      go_wp2_with fail
      go_ret
      exact ⟨rfl, rfl⟩
    · have hd : decide (0 ≤ m ∧ m ≤ 511) = false := by rw [decide_eq_false_iff_not]; omega
      rw [hd]
      go_enter Tryd.func67, Tryd.ntmps67
      go_wp2_with fail
      go_ret
      exact ⟨rfl, rfl⟩
  · have hd : decide (0 ≤ m ∧ m ≤ 511) = false := by rw [decide_eq_false_iff_not]; omega
    rw [hd]
    go_enter Tryd.func67, Tryd.ntmps67
    go_wp2_with fail
    go_ret
    exact ⟨rfl, rfl⟩
set_option maxRecDepth 100000 in
set_option maxHeartbeats 4000000 in
theorem nodeRight_any (w : World) (n : Nd) (hk : ¬ n.kind = 0) (ht0 : 0 ≤ n.time) (ht1 : n.time < 4294967296) (hd : n.data.size ≤ maxLen) :
    Calls Tryd.prog 42 #[.agg n.c] w fun e w' => e = .returned (.int .i64 (nodeR n)) ∧ Below w.heap.size w w' := by
  obtain ⟨kd, md, tm, dt⟩ := n
  simp only at hk ht0 ht1 hd
  unfold maxLen at hd
  have hb0 := (Below.refl w.heap.size w).alloc (Nat.le_refl _) (.cells #[.int .i64 kd, .int .i64 md, .int .u32 tm, .string dt] 30)
  have hB0 := Blk.new w 30 #[.int .i64 kd, .int .i64 md, .int .u32 tm, .string dt]
  have H0 := Lib.hid (And.intro hb0 hB0); clear hb0 hB0
  have HM := Lib.hid (fun W => nodeMode_any W md)
  have e0 : (kd == 0) = false := by rw [beq_eq_false_iff_ne]; exact hk
  have e0' : (kd != 0) = true := by rw [bne_iff_ne]; exact hk
  unfold Nd.c
  have hR : nodeR ⟨kd, md, tm, dt⟩ = if ¬ kd = 1 ∧ ¬ kd = 2 then 8 else if kd = 2 ∧ (¬ dt.data.toList = [] ∨ ¬ tm = 0) then 1 else if ¬ (0 ≤ md ∧ md ≤ 511) then 12 else if kd = 1 ∧ ¬ (splitD tm).Ok then 13 else if (65000 : Int) < dt.size then 4 else 0 := by
    unfold nodeR
    simp [hk]
  rw [hR]
  clear hR
  by_cases h1 : kd = 1
  · subst h1
    rw [if_neg (by omega), if_neg (by omega)]
    have HD := Lib.hid (fun W => dosRight_any W tm ht0 ht1)
    by_cases hm : 0 ≤ md ∧ md ≤ 511
    · rw [decide_eq_true hm] at HM
      rw [if_neg (fun h => h hm)]
      by_cases hk2 : (splitD tm).Ok
      · rw [decide_eq_true hk2] at HD
        rw [if_neg (fun h => h.2 hk2)]
        clear hm hk hk2
        by_cases hs : (65000 : Int) < dt.size
        all_goals
          first | rw [if_pos hs] | rw [if_neg hs]
          go_enter Tryd.func42, Tryd.ntmps42
          go_wp2_with fail
          refine (HM.out _).mono ?_
          rintro e w1 ⟨rfl, rfl⟩
          go_wp2_with fail
          refine (HD.out _).mono ?_
          rintro e w2 ⟨rfl, hb2⟩
          have x3 := (H0.out.2.below hb2 H0.out.2.lt).cell 3
          simp at x3
          have HF := Lib.hid (H0.out.1.trans (hb2.mono H0.out.1.size)); clear hb2
          go_wp2_with fail
          go_ret
          exact ⟨rfl, HF.out⟩
      · rw [decide_eq_false hk2] at HD
        rw [if_pos ⟨rfl, hk2⟩]
        clear hm hk hk2
        go_enter Tryd.func42, Tryd.ntmps42
        go_wp2_with fail
        refine (HM.out _).mono ?_
        rintro e w1 ⟨rfl, rfl⟩
        go_wp2_with fail
        refine (HD.out _).mono ?_
        rintro e w2 ⟨rfl, hb2⟩
        have HF := Lib.hid (H0.out.1.trans (hb2.mono H0.out.1.size)); clear hb2
        go_wp2_with fail
        go_ret
        exact ⟨rfl, HF.out⟩
    · rw [decide_eq_false hm] at HM
      rw [if_pos hm]
      clear hm hk
      go_enter Tryd.func42, Tryd.ntmps42
      go_wp2_with fail
      refine (HM.out _).mono ?_
      rintro e w1 ⟨rfl, rfl⟩
      go_wp2_with fail
      go_ret
      exact ⟨rfl, H0.out.1⟩
  · have e1 : (kd == 1) = false := by rw [beq_eq_false_iff_ne]; exact h1
    have e1' : (kd != 1) = true := by rw [bne_iff_ne]; exact h1
    by_cases h2 : kd = 2
    · subst h2
      rw [if_neg (by omega)]
      by_cases hx : dt.data.toList = []
      · by_cases hy : tm = 0
        · subst hy
          rw [if_neg (by rintro ⟨_, h⟩; rcases h with h | h <;> simp_all)]
          have hdz : dt = ⟨#[]⟩ := by cases dt with | mk d => cases d with | mk l => simp at hx; subst hx; rfl
          subst hdz
          by_cases hm : 0 ≤ md ∧ md ≤ 511
          · rw [decide_eq_true hm] at HM
            rw [if_neg (fun h => h hm), if_neg (by omega), if_neg (by decide)]
            clear hm hk h1 e1 e1' hx
            go_enter Tryd.func42, Tryd.ntmps42
            go_wp2_with fail
            refine (HM.out _).mono ?_
            rintro e w1 ⟨rfl, rfl⟩
            go_wp2_with fail
            go_ret
            exact ⟨rfl, H0.out.1⟩
          · rw [decide_eq_false hm] at HM
            rw [if_pos hm]
            clear hm hk h1 e1 e1' hx
            go_enter Tryd.func42, Tryd.ntmps42
            go_wp2_with fail
            refine (HM.out _).mono ?_
            rintro e w1 ⟨rfl, rfl⟩
            go_wp2_with fail
            go_ret
            exact ⟨rfl, H0.out.1⟩
        · rw [if_pos ⟨rfl, .inr hy⟩]
          have hdz : dt = ⟨#[]⟩ := by cases dt with | mk d => cases d with | mk l => simp at hx; subst hx; rfl
          subst hdz
          have t0 : (tm == 0) = false := by rw [beq_eq_false_iff_ne]; exact hy
          have t1 : (tm != 0) = true := by rw [bne_iff_ne]; exact hy
          clear hk h1 e1 e1' hx hy
          go_enter Tryd.func42, Tryd.ntmps42
          go_wp2_with fail
          go_ret
          exact ⟨rfl, H0.out.1⟩
      · rw [if_pos ⟨rfl, .inl hx⟩]
        have s0 : dt.data.toList.isEmpty = false := by cases hl : dt.data.toList with | nil => exact absurd hl hx | cons a l => rfl
        have s1 : (!dt.data.toList.isEmpty) = true := by rw [s0]; rfl
        have s2 : (dt.data.toList == []) = false := by rw [beq_eq_false_iff_ne]; exact hx
        have s3 : dt.toList.isEmpty = false := by rw [ByteArray.toList_eq]; exact s0
        clear hk h1 e1 e1' hx
        go_enter Tryd.func42, Tryd.ntmps42
        go_wp2_with fail
        go_ret
        exact ⟨rfl, H0.out.1⟩
    · rw [if_pos ⟨h1, h2⟩]
      have e2 : (kd == 2) = false := by rw [beq_eq_false_iff_ne]; exact h2
      have e2' : (kd != 2) = true := by rw [bne_iff_ne]; exact h2
      clear hk h1 h2
      go_enter Tryd.func42, Tryd.ntmps42
      go_wp2_with fail
      go_ret
      exact ⟨rfl, H0.out.1⟩
end Go.Proofs.YthnnnlbdbkdcaaaDoor
