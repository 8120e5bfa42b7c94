/- Several texts, joined for the limit of sixty files; each one opens with its own comment. -/
import Derived.Test.YtjcbjocgachpjaaGreatDoorRows
import Derived.Test.YtjcbjocgachpjaaGreatDoorJoin1
import Derived.IntWalk
import Derived.Deep.CutBlock
/- Contracts of name.letter, letters, part. -/
set_option linter.unusedVariables false
set_option linter.unusedSimpArgs false
namespace Go.Proofs.YtjcbjocgachpjaaGreatDoor
open Go Go.RowKit
open Sw
theorem res3 {P : Program} {fn : Func} {a b c : Tmp} (h : fn.results = #[.tmp a, .tmp b, .tmp c]) (tmps : Array Value) (w : World) : (results fn tmps).run P w = .ok (.tuple #[tmps.getD a undef, tmps.getD b undef, tmps.getD c undef]) w := by
  simp [results, h]
def uL (c : Nat) : Nat := if uN c ≤ 1 then 0 else uLo c
def uH (c : Nat) : Nat := if uN c ≤ 1 then 0 else uHi c
set_option maxRecDepth 100000 in
set_option maxHeartbeats 4000000 in
theorem letter_any (w : World) (s : ByteArray) (hs : s.size ≤ 1000000) (h0 : 0 < s.size) :
    Calls Tryz.prog 164 #[.string s] w fun e w' => e = .returned (.tuple #[.int .i64 (uN s[0].toNat), .int .u8 (uL s[0].toNat), .int .u8 (uH s[0].toNat)]) ∧ w = w' := by
  have hc6 : s[0].toNat < 256 := s[0].toNat_lt
  have HC := Lib.hid (show ∀ c : Nat, uN c = (if c < 128 then 1 else if 194 ≤ c ∧ c ≤ 223 then 2 else if 224 ≤ c ∧ c ≤ 239 then 3 else if 240 ≤ c ∧ c ≤ 244 then 4 else 0) ∧ uL c = (if uN c ≤ 1 then 0 else if c = 224 then 160 else if c = 240 then 144 else 128) ∧ uH c = (if uN c ≤ 1 then 0 else if c = 237 then 159 else if c = 244 then 143 else 191) from fun c => ⟨rfl, rfl, rfl⟩)
  generalize hc : s[0].toNat = c at *
  have hcI : ((s[0].toNat : Nat) : Int) = c := by rw [hc]
  clear hc
  have cases11 : (0 ≤ c ∧ c ≤ 127) ∨ (128 ≤ c ∧ c ≤ 193) ∨ (194 ≤ c ∧ c ≤ 223) ∨ (224 ≤ c ∧ c ≤ 224) ∨ (225 ≤ c ∧ c ≤ 236) ∨ (237 ≤ c ∧ c ≤ 237) ∨ (238 ≤ c ∧ c ≤ 239) ∨ (240 ≤ c ∧ c ≤ 240) ∨ (241 ≤ c ∧ c ≤ 243) ∨ (244 ≤ c ∧ c ≤ 244) ∨ (245 ≤ c ∧ c ≤ 255) := by omega
  rcases cases11 with ⟨r0, r1⟩ | ⟨r0, r1⟩ | ⟨r0, r1⟩ | ⟨r0, r1⟩ | ⟨r0, r1⟩ | ⟨r0, r1⟩ | ⟨r0, r1⟩ | ⟨r0, r1⟩ | ⟨r0, r1⟩ | ⟨r0, r1⟩ | ⟨r0, r1⟩
  · have q : uN c = 1 ∧ uL c = 0 ∧ uH c = 0 := by
      obtain ⟨q1, q2, q3⟩ := HC.out c
      have q0 : uN c = 1 := by rw [q1]; (repeat' split) <;> omega
      rw [q0] at q2 q3
      refine ⟨q0, ?_, ?_⟩
      · rw [q2]; (repeat' split) <;> omega
      · rw [q3]; (repeat' split) <;> omega
    have t1 : (c : Int) < (128 : Int) := by omega
    have t2 : ¬ (194 : Int) ≤ (c : Int) := by omega
    have t3 : (c : Int) ≤ (223 : Int) := by omega
    have t4 : ¬ (225 : Int) ≤ (c : Int) := by omega
    have t5 : (c : Int) ≤ (239 : Int) := by omega
    have t6 : ¬ (241 : Int) ≤ (c : Int) := by omega
    have t7 : (c : Int) ≤ (243 : Int) := by omega
    have e224 : ((c : Int) == 224) = false := by rw [beq_eq_false_iff_ne]; omega
    have e237 : ((c : Int) == 237) = false := by rw [beq_eq_false_iff_ne]; omega
    have e240 : ((c : Int) == 240) = false := by rw [beq_eq_false_iff_ne]; omega
    have e244 : ((c : Int) == 244) = false := by rw [beq_eq_false_iff_ne]; omega
    have HQ := Lib.hid q; clear q r0 r1
    go_enter Tryz.func164, Tryz.ntmps164
    go_wp2_with fail
    refine bodyPost_ret (res3 rfl _ _) rfl ⟨?_, rfl⟩
    rw [HQ.out.1, HQ.out.2.1, HQ.out.2.2]; rfl
  · have q : uN c = 0 ∧ uL c = 0 ∧ uH c = 0 := by
      obtain ⟨q1, q2, q3⟩ := HC.out c
      have q0 : uN c = 0 := by rw [q1]; (repeat' split) <;> omega
      rw [q0] at q2 q3
      refine ⟨q0, ?_, ?_⟩
      · rw [q2]; (repeat' split) <;> omega
      · rw [q3]; (repeat' split) <;> omega
    have t1 : ¬ (c : Int) < (128 : Int) := by omega
    have t2 : ¬ (194 : Int) ≤ (c : Int) := by omega
    have t3 : (c : Int) ≤ (223 : Int) := by omega
    have t4 : ¬ (225 : Int) ≤ (c : Int) := by omega
    have t5 : (c : Int) ≤ (239 : Int) := by omega
    have t6 : ¬ (241 : Int) ≤ (c : Int) := by omega
    have t7 : (c : Int) ≤ (243 : Int) := by omega
    have e224 : ((c : Int) == 224) = false := by rw [beq_eq_false_iff_ne]; omega
    have e237 : ((c : Int) == 237) = false := by rw [beq_eq_false_iff_ne]; omega
    have e240 : ((c : Int) == 240) = false := by rw [beq_eq_false_iff_ne]; omega
    have e244 : ((c : Int) == 244) = false := by rw [beq_eq_false_iff_ne]; omega
    have HQ := Lib.hid q; clear q r0 r1
    go_enter Tryz.func164, Tryz.ntmps164
    go_wp2_with fail
    refine bodyPost_ret (res3 rfl _ _) rfl ⟨?_, rfl⟩
    rw [HQ.out.1, HQ.out.2.1, HQ.out.2.2]; rfl
  · have q : uN c = 2 ∧ uL c = 128 ∧ uH c = 191 := by
      obtain ⟨q1, q2, q3⟩ := HC.out c
      have q0 : uN c = 2 := by rw [q1]; (repeat' split) <;> omega
      rw [q0] at q2 q3
      refine ⟨q0, ?_, ?_⟩
      · rw [q2]; (repeat' split) <;> omega
      · rw [q3]; (repeat' split) <;> omega
    have t1 : ¬ (c : Int) < (128 : Int) := by omega
    have t2 : (194 : Int) ≤ (c : Int) := by omega
    have t3 : (c : Int) ≤ (223 : Int) := by omega
    have t4 : ¬ (225 : Int) ≤ (c : Int) := by omega
    have t5 : (c : Int) ≤ (239 : Int) := by omega
    have t6 : ¬ (241 : Int) ≤ (c : Int) := by omega
    have t7 : (c : Int) ≤ (243 : Int) := by omega
    have e224 : ((c : Int) == 224) = false := by rw [beq_eq_false_iff_ne]; omega
    have e237 : ((c : Int) == 237) = false := by rw [beq_eq_false_iff_ne]; omega
    have e240 : ((c : Int) == 240) = false := by rw [beq_eq_false_iff_ne]; omega
    have e244 : ((c : Int) == 244) = false := by rw [beq_eq_false_iff_ne]; omega
    have HQ := Lib.hid q; clear q r0 r1
    go_enter Tryz.func164, Tryz.ntmps164
    go_wp2_with fail
    refine bodyPost_ret (res3 rfl _ _) rfl ⟨?_, rfl⟩
    rw [HQ.out.1, HQ.out.2.1, HQ.out.2.2]; rfl
  · have q : uN c = 3 ∧ uL c = 160 ∧ uH c = 191 := by
      obtain ⟨q1, q2, q3⟩ := HC.out c
      have q0 : uN c = 3 := by rw [q1]; (repeat' split) <;> omega
      rw [q0] at q2 q3
      refine ⟨q0, ?_, ?_⟩
      · rw [q2]; (repeat' split) <;> omega
      · rw [q3]; (repeat' split) <;> omega
    have t1 : ¬ (c : Int) < (128 : Int) := by omega
    have t2 : (194 : Int) ≤ (c : Int) := by omega
    have t3 : ¬ (c : Int) ≤ (223 : Int) := by omega
    have t4 : ¬ (225 : Int) ≤ (c : Int) := by omega
    have t5 : (c : Int) ≤ (239 : Int) := by omega
    have t6 : ¬ (241 : Int) ≤ (c : Int) := by omega
    have t7 : (c : Int) ≤ (243 : Int) := by omega
    have e224 : ((c : Int) == 224) = true := by rw [beq_iff_eq]; omega
    have e237 : ((c : Int) == 237) = false := by rw [beq_eq_false_iff_ne]; omega
    have e240 : ((c : Int) == 240) = false := by rw [beq_eq_false_iff_ne]; omega
    have e244 : ((c : Int) == 244) = false := by rw [beq_eq_false_iff_ne]; omega
    have HQ := Lib.hid q; clear q r0 r1
    go_enter Tryz.func164, Tryz.ntmps164
    go_wp2_with fail
    refine bodyPost_ret (res3 rfl _ _) rfl ⟨?_, rfl⟩
    rw [HQ.out.1, HQ.out.2.1, HQ.out.2.2]; rfl
  · have q : uN c = 3 ∧ uL c = 128 ∧ uH c = 191 := by
      obtain ⟨q1, q2, q3⟩ := HC.out c
      have q0 : uN c = 3 := by rw [q1]; (repeat' split) <;> omega
      rw [q0] at q2 q3
      refine ⟨q0, ?_, ?_⟩
      · rw [q2]; (repeat' split) <;> omega
      · rw [q3]; (repeat' split) <;> omega
    have t1 : ¬ (c : Int) < (128 : Int) := by omega
    have t2 : (194 : Int) ≤ (c : Int) := by omega
    have t3 : ¬ (c : Int) ≤ (223 : Int) := by omega
    have t4 : (225 : Int) ≤ (c : Int) := by omega
    have t5 : (c : Int) ≤ (239 : Int) := by omega
    have t6 : ¬ (241 : Int) ≤ (c : Int) := by omega
    have t7 : (c : Int) ≤ (243 : Int) := by omega
    have e224 : ((c : Int) == 224) = false := by rw [beq_eq_false_iff_ne]; omega
    have e237 : ((c : Int) == 237) = false := by rw [beq_eq_false_iff_ne]; omega
    have e240 : ((c : Int) == 240) = false := by rw [beq_eq_false_iff_ne]; omega
    have e244 : ((c : Int) == 244) = false := by rw [beq_eq_false_iff_ne]; omega
    have HQ := Lib.hid q; clear q r0 r1
    go_enter Tryz.func164, Tryz.ntmps164
    go_wp2_with fail
    refine bodyPost_ret (res3 rfl _ _) rfl ⟨?_, rfl⟩
    rw [HQ.out.1, HQ.out.2.1, HQ.out.2.2]; rfl
  · have q : uN c = 3 ∧ uL c = 128 ∧ uH c = 159 := by
      obtain ⟨q1, q2, q3⟩ := HC.out c
      have q0 : uN c = 3 := by rw [q1]; (repeat' split) <;> omega
      rw [q0] at q2 q3
      refine ⟨q0, ?_, ?_⟩
      · rw [q2]; (repeat' split) <;> omega
      · rw [q3]; (repeat' split) <;> omega
    have t1 : ¬ (c : Int) < (128 : Int) := by omega
    have t2 : (194 : Int) ≤ (c : Int) := by omega
    have t3 : ¬ (c : Int) ≤ (223 : Int) := by omega
    have t4 : (225 : Int) ≤ (c : Int) := by omega
    have t5 : (c : Int) ≤ (239 : Int) := by omega
    have t6 : ¬ (241 : Int) ≤ (c : Int) := by omega
    have t7 : (c : Int) ≤ (243 : Int) := by omega
    have e224 : ((c : Int) == 224) = false := by rw [beq_eq_false_iff_ne]; omega
    have e237 : ((c : Int) == 237) = true := by rw [beq_iff_eq]; omega
    have e240 : ((c : Int) == 240) = false := by rw [beq_eq_false_iff_ne]; omega
    have e244 : ((c : Int) == 244) = false := by rw [beq_eq_false_iff_ne]; omega
    have HQ := Lib.hid q; clear q r0 r1
    go_enter Tryz.func164, Tryz.ntmps164
    go_wp2_with fail
    refine bodyPost_ret (res3 rfl _ _) rfl ⟨?_, rfl⟩
    rw [HQ.out.1, HQ.out.2.1, HQ.out.2.2]; rfl
  · have q : uN c = 3 ∧ uL c = 128 ∧ uH c = 191 := by
      obtain ⟨q1, q2, q3⟩ := HC.out c
      have q0 : uN c = 3 := by rw [q1]; (repeat' split) <;> omega
      rw [q0] at q2 q3
      refine ⟨q0, ?_, ?_⟩
      · rw [q2]; (repeat' split) <;> omega
      · rw [q3]; (repeat' split) <;> omega
    have t1 : ¬ (c : Int) < (128 : Int) := by omega
    have t2 : (194 : Int) ≤ (c : Int) := by omega
    have t3 : ¬ (c : Int) ≤ (223 : Int) := by omega
    have t4 : (225 : Int) ≤ (c : Int) := by omega
    have t5 : (c : Int) ≤ (239 : Int) := by omega
    have t6 : ¬ (241 : Int) ≤ (c : Int) := by omega
    have t7 : (c : Int) ≤ (243 : Int) := by omega
    have e224 : ((c : Int) == 224) = false := by rw [beq_eq_false_iff_ne]; omega
    have e237 : ((c : Int) == 237) = false := by rw [beq_eq_false_iff_ne]; omega
    have e240 : ((c : Int) == 240) = false := by rw [beq_eq_false_iff_ne]; omega
    have e244 : ((c : Int) == 244) = false := by rw [beq_eq_false_iff_ne]; omega
    have HQ := Lib.hid q; clear q r0 r1
    go_enter Tryz.func164, Tryz.ntmps164
    go_wp2_with fail
    refine bodyPost_ret (res3 rfl _ _) rfl ⟨?_, rfl⟩
    rw [HQ.out.1, HQ.out.2.1, HQ.out.2.2]; rfl
  · have q : uN c = 4 ∧ uL c = 144 ∧ uH c = 191 := by
      obtain ⟨q1, q2, q3⟩ := HC.out c
      have q0 : uN c = 4 := by rw [q1]; (repeat' split) <;> omega
      rw [q0] at q2 q3
      refine ⟨q0, ?_, ?_⟩
      · rw [q2]; (repeat' split) <;> omega
      · rw [q3]; (repeat' split) <;> omega
    have t1 : ¬ (c : Int) < (128 : Int) := by omega
    have t2 : (194 : Int) ≤ (c : Int) := by omega
    have t3 : ¬ (c : Int) ≤ (223 : Int) := by omega
    have t4 : (225 : Int) ≤ (c : Int) := by omega
    have t5 : ¬ (c : Int) ≤ (239 : Int) := by omega
    have t6 : ¬ (241 : Int) ≤ (c : Int) := by omega
    have t7 : (c : Int) ≤ (243 : Int) := by omega
    have e224 : ((c : Int) == 224) = false := by rw [beq_eq_false_iff_ne]; omega
    have e237 : ((c : Int) == 237) = false := by rw [beq_eq_false_iff_ne]; omega
    have e240 : ((c : Int) == 240) = true := by rw [beq_iff_eq]; omega
    have e244 : ((c : Int) == 244) = false := by rw [beq_eq_false_iff_ne]; omega
    have HQ := Lib.hid q; clear q r0 r1
    go_enter Tryz.func164, Tryz.ntmps164
    go_wp2_with fail
    refine bodyPost_ret (res3 rfl _ _) rfl ⟨?_, rfl⟩
    rw [HQ.out.1, HQ.out.2.1, HQ.out.2.2]; rfl
  · have q : uN c = 4 ∧ uL c = 128 ∧ uH c = 191 := by
      obtain ⟨q1, q2, q3⟩ := HC.out c
      have q0 : uN c = 4 := by rw [q1]; (repeat' split) <;> omega
      rw [q0] at q2 q3
      refine ⟨q0, ?_, ?_⟩
      · rw [q2]; (repeat' split) <;> omega
      · rw [q3]; (repeat' split) <;> omega
    have t1 : ¬ (c : Int) < (128 : Int) := by omega
    have t2 : (194 : Int) ≤ (c : Int) := by omega
    have t3 : ¬ (c : Int) ≤ (223 : Int) := by omega
    have t4 : (225 : Int) ≤ (c : Int) := by omega
    have t5 : ¬ (c : Int) ≤ (239 : Int) := by omega
    have t6 : (241 : Int) ≤ (c : Int) := by omega
    have t7 : (c : Int) ≤ (243 : Int) := by omega
    have e224 : ((c : Int) == 224) = false := by rw [beq_eq_false_iff_ne]; omega
    have e237 : ((c : Int) == 237) = false := by rw [beq_eq_false_iff_ne]; omega
    have e240 : ((c : Int) == 240) = false := by rw [beq_eq_false_iff_ne]; omega
    have e244 : ((c : Int) == 244) = false := by rw [beq_eq_false_iff_ne]; omega
    have HQ := Lib.hid q; clear q r0 r1
    go_enter Tryz.func164, Tryz.ntmps164
    go_wp2_with fail
    refine bodyPost_ret (res3 rfl _ _) rfl ⟨?_, rfl⟩
    rw [HQ.out.1, HQ.out.2.1, HQ.out.2.2]; rfl
  · have q : uN c = 4 ∧ uL c = 128 ∧ uH c = 143 := by
      obtain ⟨q1, q2, q3⟩ := HC.out c
      have q0 : uN c = 4 := by rw [q1]; (repeat' split) <;> omega
      rw [q0] at q2 q3
      refine ⟨q0, ?_, ?_⟩
      · rw [q2]; (repeat' split) <;> omega
      · rw [q3]; (repeat' split) <;> omega
    have t1 : ¬ (c : Int) < (128 : Int) := by omega
    have t2 : (194 : Int) ≤ (c : Int) := by omega
    have t3 : ¬ (c : Int) ≤ (223 : Int) := by omega
    have t4 : (225 : Int) ≤ (c : Int) := by omega
    have t5 : ¬ (c : Int) ≤ (239 : Int) := by omega
    have t6 : (241 : Int) ≤ (c : Int) := by omega
    have t7 : ¬ (c : Int) ≤ (243 : Int) := by omega
    have e224 : ((c : Int) == 224) = false := by rw [beq_eq_false_iff_ne]; omega
    have e237 : ((c : Int) == 237) = false := by rw [beq_eq_false_iff_ne]; omega
    have e240 : ((c : Int) == 240) = false := by rw [beq_eq_false_iff_ne]; omega
    have e244 : ((c : Int) == 244) = true := by rw [beq_iff_eq]; omega
    have HQ := Lib.hid q; clear q r0 r1
    go_enter Tryz.func164, Tryz.ntmps164
    go_wp2_with fail
    refine bodyPost_ret (res3 rfl _ _) rfl ⟨?_, rfl⟩
    rw [HQ.out.1, HQ.out.2.1, HQ.out.2.2]; rfl
  · have q : uN c = 0 ∧ uL c = 0 ∧ uH c = 0 := by
      obtain ⟨q1, q2, q3⟩ := HC.out c
      have q0 : uN c = 0 := by rw [q1]; (repeat' split) <;> omega
      rw [q0] at q2 q3
      refine ⟨q0, ?_, ?_⟩
      · rw [q2]; (repeat' split) <;> omega
      · rw [q3]; (repeat' split) <;> omega
    have t1 : ¬ (c : Int) < (128 : Int) := by omega
    have t2 : (194 : Int) ≤ (c : Int) := by omega
    have t3 : ¬ (c : Int) ≤ (223 : Int) := by omega
    have t4 : (225 : Int) ≤ (c : Int) := by omega
    have t5 : ¬ (c : Int) ≤ (239 : Int) := by omega
    have t6 : (241 : Int) ≤ (c : Int) := by omega
    have t7 : ¬ (c : Int) ≤ (243 : Int) := by omega
    have e224 : ((c : Int) == 224) = false := by rw [beq_eq_false_iff_ne]; omega
    have e237 : ((c : Int) == 237) = false := by rw [beq_eq_false_iff_ne]; omega
    have e240 : ((c : Int) == 240) = false := by rw [beq_eq_false_iff_ne]; omega
    have e244 : ((c : Int) == 244) = false := by rw [beq_eq_false_iff_ne]; omega
    have HQ := Lib.hid q; clear q r0 r1
    go_enter Tryz.func164, Tryz.ntmps164
    go_wp2_with fail
    refine bodyPost_ret (res3 rfl _ _) rfl ⟨?_, rfl⟩
    rw [HQ.out.1, HQ.out.2.1, HQ.out.2.2]; rfl
def strSz : Value → Nat
  | .string s => s.size
  | _ => 0
set_option maxRecDepth 100000 in
set_option maxHeartbeats 4000000 in
theorem letters_any (w : World) (s : ByteArray) (hs : s.size ≤ 1000000) :
    Calls Tryz.prog 138 #[.string s] w fun e w' => e = .returned (.bool (utfD 0 0 0 s.data.toList)) ∧ w = w' := by
  obtain ⟨U, hU⟩ : ∃ U, utfD 0 0 0 s.data.toList = U := ⟨_, rfl⟩
  rw [hU]
  go_enter Tryz.func138, Tryz.ntmps138
  go_wp2_with fail
  go_loopw [0, 2, 3, 4, 5, 6] (fun x r _ _ _ _ wr => ∃ X : ByteArray, x = .string X ∧ r = .bool false ∧ X.size ≤ s.size ∧ utfD 0 0 0 X.data.toList = U ∧ w = wr) (fun x _ _ _ _ _ _ => strSz x)
  case atStart => exact ⟨s, rfl, rfl, Nat.le_refl _, hU, rfl⟩
  case round =>
    obtain ⟨X, rfl, rfl, hX, hu, rfl⟩ := hrel
    by_cases h0 : X.size = 0
    · have hl : X.data.toList = [] := List.length_eq_zero_iff.1 (by simpa using h0)
      have hne : X.toList.isEmpty = true := by rw [ByteArray.toList_eq, hl]; rfl
      rw [hl, utfD_nil] at hu
      have HU := Lib.hid hu.symm; clear hu hl
      go_wp2_with fail
      go_ret
      exact ⟨by rw [HU.out]; first | done | rfl, rfl⟩
    · have hp : 0 < X.size := by omega
      have hne : X.toList.isEmpty = false := by
        rw [ByteArray.toList_eq]
        cases hd : X.data.toList with
        | nil => exact absurd (by have := congrArg List.length hd; simpa using this) h0
        | cons a l => rfl
      have hu0 : utfD 0 0 0 (X.data.toList.drop 0) = U := hu
      rw [utfD_at0 X 0 0 0 hp] at hu0
      have hL := letter_any w X (by omega) hp
      have hn4 := uN_le X[0].toNat
      have hlo := uLo_le X[0].toNat
      have hLd : uN X[0].toNat ≤ 1 ∨ (uL X[0].toNat = uLo X[0].toNat ∧ uH X[0].toNat = uHi X[0].toNat) := by
        unfold uL uH
        by_cases h : uN X[0].toNat ≤ 1
        · exact .inl h
        · exact .inr ⟨by rw [if_neg h], by rw [if_neg h]⟩
      generalize uN X[0].toNat = N at *
      generalize uL X[0].toNat = a at *
      generalize uH X[0].toNat = b at *
      generalize uLo X[0].toNat = lo at *
      generalize uHi X[0].toNat = hi at *
      have HL := Lib.hid hL; clear hL
      have HU := Lib.hid hu0; clear hu0 hu
      by_cases hN0 : N = 0
      · subst hN0
        have HF := Lib.hid (show U = false by rw [← HU.out, if_pos rfl])
        go_wp2_with fail
        refine HL.out.mono ?_
        rintro e w1 ⟨rfl, rfl⟩
        go_wp2_with fail
        go_ret
        exact ⟨by rw [HF.out]; first | done | rfl, rfl⟩
      have hNb : ((N : Int) == 0) = false := by rw [beq_eq_false_iff_ne]; omega
      by_cases hNl : X.size < N
      · have HF := Lib.hid (show U = false by rw [← HU.out, if_neg hN0, utfD_at_short X _ _ _ _ (by omega) (by omega)])
        go_wp2_with fail
        refine HL.out.mono ?_
        rintro e w1 ⟨rfl, rfl⟩
        go_wp2_with fail
        go_ret
        exact ⟨by rw [HF.out]; first | done | rfl, rfl⟩
      by_cases hbad : ∃ h : 1 < X.size, 2 ≤ N ∧ (X[1].toNat < a ∨ b < X[1].toNat)
      · obtain ⟨h1X, h2N, hb⟩ := hbad
        obtain ⟨hab1, hab2⟩ : a = lo ∧ b = hi := by
          rcases hLd with h | h
          · omega
          · exact h
        subst hab1 hab2
        obtain ⟨M, rfl⟩ : ∃ M, N = M + 2 := ⟨N - 2, by omega⟩
        have h1 := HU.out
        rw [if_neg hN0, show M + 2 - 1 = M + 1 by omega, Nat.zero_add, utfD_at X M a b 1 h1X, if_neg (by omega)] at h1
        have HF := Lib.hid h1.symm; clear h1 HU
        generalize hx1 : X[1].toNat = x1 at *
        have hx1I : ((X[1].toNat : Nat) : Int) = x1 := by rw [hx1]
        clear hx1
        have hN1I : (1 : Int) < ((M + 2 : Nat) : Int) := by omega
        by_cases hA : x1 < a
        · clear hb
          go_wp2_with fail
          refine HL.out.mono ?_
          rintro e w1 ⟨rfl, rfl⟩
          go_wp2_with fail
          go_ret
          exact ⟨by rw [HF.out]; first | done | rfl, rfl⟩
        · have hB : b < x1 := by omega
          clear hb
          go_wp2_with fail
          refine HL.out.mono ?_
          rintro e w1 ⟨rfl, rfl⟩
          go_wp2_with fail
          go_ret
          exact ⟨by rw [HF.out]; first | done | rfl, rfl⟩
      have hgood : utfD (N - 2) 128 191 (X.data.toList.drop (min 2 N)) = U := by
        rw [← HU.out, if_neg hN0]
        by_cases hN1 : N = 1
        · subst hN1
          exact (utfD_zero _ _ _).trans (utfD_zero _ _ _).symm
        · have h1X : 1 < X.size := by omega
          obtain ⟨hab1, hab2⟩ : a = lo ∧ b = hi := by
            rcases hLd with h | h
            · omega
            · exact h
          subst hab1 hab2
          obtain ⟨M, rfl⟩ : ∃ M, N = M + 2 := ⟨N - 2, by omega⟩
          have hng : ¬ (X[1].toNat < a ∨ b < X[1].toNat) := fun h => hbad ⟨h1X, by omega, h⟩
          rw [show M + 2 - 1 = M + 1 by omega, Nat.zero_add, utfD_at X M a b 1 h1X, if_pos (by omega), show M + 2 - 2 = M by omega, show min 2 (M + 2) = 2 by omega]
      have HG := Lib.hid hgood; clear hgood HU
      have HLD := Lib.hid (And.intro hLd hbad); clear hLd hbad
      go_wp2_with fail
      refine HL.out.mono ?_
      rintro e w1 ⟨rfl, rfl⟩
      go_upto_region 3 with fail
      go_cut [38] from 15 to 38 (fun v wx => v = .bool false ∧ wx = w)
      case first =>
        by_cases hN1 : N = 1
        · subst hN1
          have hX1 : ¬ (X.size : Int) < 1 := by omega
          go_wp2_with fail
          go_meet
          case rel => exact ⟨rfl, rfl⟩
        · have h1X : 1 < X.size := by omega
          have hng : ¬ (X[1].toNat < a ∨ b < X[1].toNat) := fun h => HLD.out.2 ⟨h1X, by omega, h⟩
          have hN1I : (1 : Int) < (N : Int) := by omega
          generalize hx1 : X[1].toNat = x1 at *
          have hx1I : ((X[1].toNat : Nat) : Int) = x1 := by rw [hx1]
          have hA : ¬ x1 < a := by omega
          have hB : ¬ b < x1 := by omega
          clear hx1 hng
          go_wp2_with fail
          go_meet
          case rel => exact ⟨rfl, rfl⟩
      case rest =>
        obtain ⟨rfl, rfl⟩ := hcut
        clear HL HLD
        go_wp2_with fail
        go_loopw [2, 6] (fun r iv wr => ∃ i : Nat, 2 ≤ i ∧ i ≤ max 2 N ∧ r = .bool false ∧ iv = .int .i64 i ∧ utfD (N - i) 128 191 (X.data.toList.drop (min i N)) = U ∧ wc = wr) (fun _ iv _ => N - (intOf iv).toNat)
        case atStart => exact ⟨2, Nat.le_refl _, by omega, rfl, rfl, HG.out, rfl⟩
        case round =>
          obtain ⟨i, hi2, hiN, rfl, rfl, hu, rfl⟩ := hrel
          by_cases hlt : i < N
          · have hiX : i < X.size := by omega
            have hmin : min i N = i := by omega
            rw [hmin, show N - i = (N - (i + 1)) + 1 by omega, utfD_at X _ 128 191 i hiX] at hu
            have HU := Lib.hid hu; clear hu HG
            have hc1 : X[i].toNat < 256 := X[i].toNat_lt
            generalize hx1 : X[i].toNat = x1 at *
            have hx1I : ((X[i].toNat : Nat) : Int) = x1 := by rw [hx1]
            clear hx1
            by_cases hA : (x1 : Int) < 128
            · have HF := Lib.hid (show U = false by rw [← HU.out, if_neg (by omega)])
              go_wp2_with fail
              go_ret
              exact ⟨by rw [HF.out]; first | done | rfl, rfl⟩
            · by_cases hB : (191 : Int) < x1
              · have HF := Lib.hid (show U = false by rw [← HU.out, if_neg (by omega)])
                go_wp2_with fail
                go_ret
                exact ⟨by rw [HF.out]; first | done | rfl, rfl⟩
              · have HF := Lib.hid (show utfD (N - (i + 1)) 128 191 (X.data.toList.drop (min (i + 1) N)) = U by rw [show min (i + 1) N = i + 1 by omega, ← HU.out, if_pos (by omega)])
                go_wp2_with fail
                go_roundw
                case rel => exact ⟨i + 1, by omega, by omega, rfl, by go_num, HF.out, by simp⟩
                case measure => simp [intOf]; omega
          · have hmin : min i N = N := by omega
            rw [hmin, show N - i = 0 by omega] at hu
            have hd := ext_drop X N
            have hsz : (X.extract N X.size).size = X.size - N := by rw [ByteArray.size_extract]; omega
            have HD := Lib.hid hd; clear hd
            have HV := Lib.hid (show utfD 0 0 0 (X.data.toList.drop N) = U from (utfD_zero _ _ _).symm.trans hu)
            clear hu HG
            go_wp2_with fail
            go_roundw
            case rel => exact ⟨_, rfl, rfl, by omega, by rw [HD.out]; exact HV.out, by simp⟩
            case measure => simp [strSz]; omega
end Go.Proofs.YtjcbjocgachpjaaGreatDoor
/- The contract of name.part. -/
set_option linter.unusedVariables false
set_option linter.unusedSimpArgs false
namespace Go.Proofs.YtjcbjocgachpjaaGreatDoor
open Go Go.RowKit
open Sw
theorem all_step (s : ByteArray) (i : Nat) (h : i < s.size) (hp : (s.data.toList.take i).all okB = true) (hb : okB s[i] = true) : (s.data.toList.take (i + 1)).all okB = true := by
  rw [List.take_succ_eq_append_getElem (by simpa using h), List.all_append, hp]
  simp
  exact hb
theorem str_eq_iff (s : ByteArray) (l : List UInt8) : (s.toList == l) = decide (s.data.toList = l) := by
  rw [ByteArray.toList_eq]
  by_cases h : s.data.toList = l
  · rw [decide_eq_true h, h]; simp
  · rw [decide_eq_false h, beq_eq_false_iff_ne]; exact h
set_option maxRecDepth 100000 in
set_option maxHeartbeats 4000000 in
theorem part_any (w : World) (s : ByteArray) (hs : s.size ≤ 1000000) :
    Calls Tryz.prog 102 #[.string s] w fun e w' => e = .returned (.bool (partL s.data.toList)) ∧ w = w' := by
  have HL := Lib.hid (letters_any w s hs)
  obtain ⟨U, hU⟩ : ∃ U, partL s.data.toList = U := ⟨_, rfl⟩
  have HP := Lib.hid (show partL s.data.toList = (s.data.toList.all okB && decide (1 ≤ s.data.toList.length ∧ s.data.toList.length ≤ 60) && decide (s.data.toList ≠ [46]) && decide (s.data.toList ≠ [46, 46]) && utfD 0 0 0 s.data.toList) from rfl)
  rw [hU] at HP ⊢
  have HU := Lib.hid hU; clear hU
  go_enter Tryz.func102, Tryz.ntmps102
  go_wp2_with fail
  go_loopw [2, 3, 4, 7] (fun r _ _ iv wr => ∃ i : Nat, i ≤ s.size ∧ r = .bool false ∧ iv = .int .i64 i ∧ (s.data.toList.take i).all okB = true ∧ w = wr) (fun _ _ _ iv _ => s.size - (intOf iv).toNat)
  case atStart => exact ⟨0, Nat.zero_le _, rfl, rfl, by simp, rfl⟩
  case round =>
    obtain ⟨i, hi, rfl, rfl, hall, rfl⟩ := hrel
    by_cases hlt : i < s.size
    · have hok : okB s[i] = !(decide (s[i].toNat < 32) || decide (s[i].toNat = 127) || decide (s[i].toNat = 47) || decide (s[i].toNat = 92) || decide (s[i].toNat = 58)) := rfl
      have hstep := all_step s i hlt hall
      have hbad := fun h => partL_bad (l := s.data.toList) (i := i) (by simpa using hlt) h
      have hel : s.data.toList[i]'(by simpa using hlt) = s[i] := rfl
      rw [hel] at hbad
      generalize okB s[i] = ok at *
      have hc6 : s[i].toNat < 256 := s[i].toNat_lt
      generalize hx : s[i].toNat = x at *
      have hxI : ((s[i].toNat : Nat) : Int) = x := by rw [hx]
      clear hx hel
      have HOK := Lib.hid hok; clear hok
      have HST := Lib.hid hstep; clear hstep hall
      have HBD := Lib.hid hbad; clear hbad
      go_upto_region 5 with fail
      go_cut [13] from 14 to 31 (fun v wx => v = .bool (!ok) ∧ wx = w)
      case first =>
        by_cases c1 : x < 32
        · have HV := Lib.hid (show ok = false by rw [HOK.out, decide_eq_true c1]; rfl)
          have t1 : (x : Int) < 32 := by omega
          clear c1
          go_wp2_with fail
          go_meet
          case rel => exact ⟨by rw [HV.out]; first | done | rfl, rfl⟩
        · skip
          by_cases c2 : x = 127
          · have HV := Lib.hid (show ok = false by rw [HOK.out, decide_eq_false c1, decide_eq_true c2]; rfl)
            have t1 : ¬ (x : Int) < 32 := by omega
            have e1 : ((x : Int) == 127) = true := by rw [beq_iff_eq]; omega
            clear c1 c2
            go_wp2_with fail
            go_meet
            case rel => exact ⟨by rw [HV.out]; first | done | rfl, rfl⟩
          · skip
            by_cases c3 : x = 47
            · have HV := Lib.hid (show ok = false by rw [HOK.out, decide_eq_false c1, decide_eq_false c2, decide_eq_true c3]; rfl)
              have t1 : ¬ (x : Int) < 32 := by omega
              have e1 : ((x : Int) == 127) = false := by rw [beq_eq_false_iff_ne]; omega
              have e2 : ((x : Int) == 47) = true := by rw [beq_iff_eq]; omega
              clear c1 c2 c3
              go_wp2_with fail
              go_meet
              case rel => exact ⟨by rw [HV.out]; first | done | rfl, rfl⟩
            · skip
              by_cases c4 : x = 92
              · have HV := Lib.hid (show ok = false by rw [HOK.out, decide_eq_false c1, decide_eq_false c2, decide_eq_false c3, decide_eq_true c4]; rfl)
                have t1 : ¬ (x : Int) < 32 := by omega
                have e1 : ((x : Int) == 127) = false := by rw [beq_eq_false_iff_ne]; omega
                have e2 : ((x : Int) == 47) = false := by rw [beq_eq_false_iff_ne]; omega
                have e3 : ((x : Int) == 92) = true := by rw [beq_iff_eq]; omega
                clear c1 c2 c3 c4
                go_wp2_with fail
                go_meet
                case rel => exact ⟨by rw [HV.out]; first | done | rfl, rfl⟩
              · skip
                by_cases c5 : x = 58
                · have HV := Lib.hid (show ok = false by rw [HOK.out, decide_eq_false c1, decide_eq_false c2, decide_eq_false c3, decide_eq_false c4, decide_eq_true c5]; rfl)
                  have t1 : ¬ (x : Int) < 32 := by omega
                  have e1 : ((x : Int) == 127) = false := by rw [beq_eq_false_iff_ne]; omega
                  have e2 : ((x : Int) == 47) = false := by rw [beq_eq_false_iff_ne]; omega
                  have e3 : ((x : Int) == 92) = false := by rw [beq_eq_false_iff_ne]; omega
                  have e4 : ((x : Int) == 58) = true := by rw [beq_iff_eq]; omega
                  clear c1 c2 c3 c4 c5
                  go_wp2_with fail
                  go_meet
                  case rel => exact ⟨by rw [HV.out]; first | done | rfl, rfl⟩
                · have HV := Lib.hid (show ok = true by rw [HOK.out, decide_eq_false c1, decide_eq_false c2, decide_eq_false c3, decide_eq_false c4, decide_eq_false c5]; rfl)
                  have t1 : ¬ (x : Int) < 32 := by omega
                  have e1 : ((x : Int) == 127) = false := by rw [beq_eq_false_iff_ne]; omega
                  have e2 : ((x : Int) == 47) = false := by rw [beq_eq_false_iff_ne]; omega
                  have e3 : ((x : Int) == 92) = false := by rw [beq_eq_false_iff_ne]; omega
                  have e4 : ((x : Int) == 58) = false := by rw [beq_eq_false_iff_ne]; omega
                  clear c1 c2 c3 c4 c5
                  go_wp2_with fail
                  go_meet
                  case rel => exact ⟨by rw [HV.out]; first | done | rfl, rfl⟩
      case rest =>
        obtain ⟨rfl, rfl⟩ := hcut
        clear HOK
        cases ok with
        | false =>
          have HF := Lib.hid (show U = false by rw [← HU.out]; exact HBD.out rfl)
          go_wp2_with fail
          go_ret
          exact ⟨by rw [HF.out]; first | done | rfl, rfl⟩
        | true =>
          have HN := Lib.hid (HST.out rfl)
          go_wp2_with fail
          go_roundw
          case rel => exact ⟨i + 1, by omega, rfl, by go_num, HN.out, by simp⟩
          case measure => simp [intOf]; omega
    · obtain rfl : i = s.size := by omega
      rw [List.take_of_length_le (by simp)] at hall
      have hP := HP.out
      have hlen : s.data.toList.length = s.size := by simp
      have hs1 := str_eq_iff s [46]
      have hs2 := str_eq_iff s [46, 46]
      rw [hall, hlen, Bool.true_and] at hP
      clear hall HP HU hlen hlt
      generalize s.data.toList = L at *
      generalize utfD 0 0 0 L = V at *
      have HP := Lib.hid hP; clear hP
      by_cases c1 : (1 : Int) ≤ s.size
      · by_cases c2 : (s.size : Int) ≤ 60
        · by_cases c3 : L = [46]
          · have hb : (s.toList == [46]) = true := by rw [hs1, decide_eq_true c3]
            have HF := Lib.hid (show U = false by rw [HP.out, decide_eq_true (show 1 ≤ s.size ∧ s.size ≤ 60 by omega), decide_eq_false (fun h => h c3)]; rfl)
            clear hs1 hs2 c3
            go_wp2_with fail
            go_ret
            exact ⟨by rw [HF.out]; first | done | rfl, rfl⟩
          · have hb : (s.toList == [46]) = false := by rw [hs1, decide_eq_false c3]
            by_cases c4 : L = [46, 46]
            · have hb2 : (s.toList == [46, 46]) = true := by rw [hs2, decide_eq_true c4]
              have HF := Lib.hid (show U = false by rw [HP.out, decide_eq_true (show 1 ≤ s.size ∧ s.size ≤ 60 by omega), decide_eq_true c3, decide_eq_false (fun h => h c4)]; rfl)
              clear hs1 hs2 c3 c4
              go_wp2_with fail
              go_ret
              exact ⟨by rw [HF.out]; first | done | rfl, rfl⟩
            · have hb2 : (s.toList == [46, 46]) = false := by rw [hs2, decide_eq_false c4]
              have HF := Lib.hid (show U = V by rw [HP.out, decide_eq_true (show 1 ≤ s.size ∧ s.size ≤ 60 by omega), decide_eq_true c3, decide_eq_true c4]; rfl)
              clear hs1 hs2 c3 c4
              go_wp2_with fail
              refine HL.out.mono ?_
              rintro e w1 ⟨rfl, rfl⟩
              go_wp2_with fail
              go_ret
              exact ⟨by rw [HF.out]; first | done | rfl, rfl⟩
        · have HF := Lib.hid (show U = false by rw [HP.out, decide_eq_false (show ¬ (1 ≤ s.size ∧ s.size ≤ 60) by omega)]; rfl)
          clear hs1 hs2
          go_wp2_with fail
          go_ret
          exact ⟨by rw [HF.out]; first | done | rfl, rfl⟩
      · have HF := Lib.hid (show U = false by rw [HP.out, decide_eq_false (show ¬ (1 ≤ s.size ∧ s.size ≤ 60) by omega)]; rfl)
        clear hs1 hs2
        go_wp2_with fail
        go_ret
        exact ⟨by rw [HF.out]; first | done | rfl, rfl⟩
end Go.Proofs.YtjcbjocgachpjaaGreatDoor
