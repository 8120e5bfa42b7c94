/- Several texts, joined for the limit of sixty files; each one opens with its own comment. -/
import Derived.Test.YtnpehjgnplaabaaGreatDoorJoin1
import Derived.ChangeKeysEq
import Derived.Laws.StructEq
import Derived.Test.YtnpehjgnplaabaaGreatDoorRows
import Derived.IntWalk
import Derived.Deep.CutBlock
/- Several texts, joined for the limit of sixty files; each one opens with its own comment. -/
/- More on slices that can be read: the rest of a slice. Over any program. -/
set_option linter.unusedVariables false
namespace Sw
open Go Go.RowKit
/-- the slice from its element k on -/
theorem SlOf.drop {w : World} {size : Nat} {α : Type} {E : α → List Value} {l : List α} {b off : Nat} (h : SlOf w size E (some ⟨b, off, none⟩) l) (k : Nat) : SlOf w size E (some ⟨b, off + k * size, none⟩) (l.drop k) := fun hn => by
  rw [List.length_drop] at hn
  obtain ⟨b', off', hA, hlt, hc⟩ := h (by omega)
  have hA' : (⟨b, off, none⟩ : Addr) = ⟨b', off', none⟩ := Option.some.inj hA
  have hb : b = b' := congrArg Addr.block hA'
  have ho : off = off' := congrArg Addr.off hA'
  subst hb
  subst ho
  refine ⟨b, off + k * size, rfl, hlt, fun i hi j hj => ?_⟩
  rw [List.length_drop] at hi
  have h2 := hc (k + i) (by omega) j hj
  rw [List.getElem_drop]
  rw [← h2, Nat.add_mul, Nat.add_assoc off]
/-- a value that is a slice of the elements l -/
def SlV (w : World) (size : Nat) {α : Type} (E : α → List Value) (v : Value) (l : List α) : Prop := ∃ A c, v = .slice A l.length c ∧ l.length ≤ c ∧ c ≤ maxLen ∧ SlOf w size E A l
theorem flat_get {α β : Type} {E : α → List β} {size : Nat} (hE : ∀ x, (E x).length = size) : ∀ (l : List α) (i : Nat) (h : i < l.length) (j : Nat), j < size → (l.flatMap E)[i * size + j]? = (E l[i])[j]?
  | [], i, h, _, _ => absurd h (by simp)
  | a :: l, 0, _, j, hj => by
    rw [List.flatMap_cons, Nat.zero_mul, Nat.zero_add, List.getElem?_append_left (by rw [hE]; exact hj)]; rfl
  | a :: l, i + 1, h, j, hj => by
    rw [List.flatMap_cons, List.getElem?_append_right (by rw [hE, Nat.add_mul]; omega), hE]
    have := flat_get hE l i (by simpa using h) j hj
    rw [show (i + 1) * size + j - size = i * size + j by rw [Nat.add_mul]; omega, this]
    rfl
theorem flat_len {α β : Type} {E : α → List β} {size : Nat} (hE : ∀ x, (E x).length = size) : ∀ l : List α, (l.flatMap E).length = l.length * size
  | [] => by simp
  | a :: l => by rw [List.flatMap_cons, List.length_append, hE, flat_len hE l, List.length_cons, Nat.add_mul]; omega
theorem SlV.of_own {w : World} {base : Nat} {e : TypeId} {size n : Nat} {v : Value} {α : Type} {E : α → List Value} {l : List α} (h : w.ownsRow base e size v n (l.flatMap E)) (hE : ∀ x, (E x).length = size) (hs : 0 < size) : SlV w size E v l := by
  have hn : l.length = n := by
    have := h.1
    rw [flat_len hE] at this
    exact Nat.eq_of_mul_eq_mul_right hs this
  subst hn
  rcases h.2 with ⟨rfl, h0⟩ | ⟨g, cap, cur, rfl, hb, hh, hc, hm, hsz, hx⟩
  · refine ⟨none, 0, by rw [h0], by omega, by simp [maxLen], fun hp => by omega⟩
  · refine ⟨_, cap, rfl, hc, hm, fun hp => ⟨g, 0, rfl, (Array.getElem?_eq_some_iff.1 hh).1, fun i hi j hj => ?_⟩⟩
    have hlt : i * size + j < l.length * size := by
      have : (i + 1) * size ≤ l.length * size := Nat.mul_le_mul_right size hi
      rw [Nat.add_mul] at this
      omega
    rw [cell_of_row w g _ cur e (0, 0) hh, Nat.zero_add, ← flat_get hE l i hi j hj, ← hx, List.getElem?_take, if_pos hlt, Array.getElem?_toList]
theorem SlV.below {w w' : World} {size B : Nat} {α : Type} {E : α → List Value} {v : Value} {l : List α} (h : SlV w size E v l) (hb : Below B w w') (hB : w.heap.size ≤ B) : SlV w' size E v l := by
  obtain ⟨A, c, rfl, h1, h2, h3⟩ := h
  exact ⟨A, c, rfl, h1, h2, h3.below hb hB⟩
section
open Go.ChangeShapes Go.WideShapes Go.Deep
variable {H : Type} {enc : TypeId × Value → H} {P : Program} {w : World}
end
/-- the block that was made second -/
theorem blk_snd (w : World) (o : Obj) (c : Array Value) (t : TypeId) : Blk ((w.alloc o).alloc (.cells c t)) (w.heap.size + 1) t c := by
  have h := Blk.new (w.alloc o) t c
  rw [World.size_alloc] at h
  exact h
theorem blk_trd (w : World) (o p : Obj) (c : Array Value) (t : TypeId) : Blk (((w.alloc o).alloc p).alloc (.cells c t)) (w.heap.size + 1 + 1) t c := by
  have h := blk_snd (w.alloc o) p c t
  rw [World.size_alloc] at h
  exact h
theorem blk_mid (w : World) (o : Obj) (c : Array Value) (t : TypeId) (p : Obj) : Blk (((w.alloc o).alloc (.cells c t)).alloc p) (w.heap.size + 1) t c := (blk_snd w o c t).alloc p
/-- the block that was made first -/
theorem blk_fst (w : World) (c : Array Value) (t : TypeId) (o : Obj) : Blk ((w.alloc (.cells c t)).alloc o) w.heap.size t c := (Blk.new w t c).alloc _
end Sw
/- Contracts of name.letter, letters, part. -/
set_option linter.unusedVariables false
set_option linter.unusedSimpArgs false
namespace Go.Proofs.YtnpehjgnplaabaaGreatDoor
open Go Go.RowKit
open Sw
theorem res3 {P : Program} {fn : Func} {a b c : Tmp} (h : fn.results = #[.tmp a, .tmp b, .tmp c]) (tmps : Array Value) (w : World) : (results fn tmps).run P w = .ok (.tuple #[tmps.getD a undef, tmps.getD b undef, tmps.getD c undef]) w := by
  simp [results, h]
def uL (c : Nat) : Nat := if uN c ≤ 1 then 0 else uLo c
def uH (c : Nat) : Nat := if uN c ≤ 1 then 0 else uHi c
set_option maxRecDepth 100000 in
set_option maxHeartbeats 4000000 in
theorem letter_any (w : World) (s : ByteArray) (hs : s.size ≤ 1000000) (h0 : 0 < s.size) :
    Calls Tryz.prog 192 #[.string s] w fun e w' => e = .returned (.tuple #[.int .i64 (uN s[0].toNat), .int .u8 (uL s[0].toNat), .int .u8 (uH s[0].toNat)]) ∧ w = w' := by
  have hc6 : s[0].toNat < 256 := s[0].toNat_lt
  have HC := Lib.hid (show ∀ c : Nat, uN c = (if c < 128 then 1 else if 194 ≤ c ∧ c ≤ 223 then 2 else if 224 ≤ c ∧ c ≤ 239 then 3 else if 240 ≤ c ∧ c ≤ 244 then 4 else 0) ∧ uL c = (if uN c ≤ 1 then 0 else if c = 224 then 160 else if c = 240 then 144 else 128) ∧ uH c = (if uN c ≤ 1 then 0 else if c = 237 then 159 else if c = 244 then 143 else 191) from fun c => ⟨rfl, rfl, rfl⟩)
  generalize hc : s[0].toNat = c at *
  have hcI : ((s[0].toNat : Nat) : Int) = c := by rw [hc]
  clear hc
  have cases11 : (0 ≤ c ∧ c ≤ 127) ∨ (128 ≤ c ∧ c ≤ 193) ∨ (194 ≤ c ∧ c ≤ 223) ∨ (224 ≤ c ∧ c ≤ 224) ∨ (225 ≤ c ∧ c ≤ 236) ∨ (237 ≤ c ∧ c ≤ 237) ∨ (238 ≤ c ∧ c ≤ 239) ∨ (240 ≤ c ∧ c ≤ 240) ∨ (241 ≤ c ∧ c ≤ 243) ∨ (244 ≤ c ∧ c ≤ 244) ∨ (245 ≤ c ∧ c ≤ 255) := by omega
  rcases cases11 with ⟨r0, r1⟩ | ⟨r0, r1⟩ | ⟨r0, r1⟩ | ⟨r0, r1⟩ | ⟨r0, r1⟩ | ⟨r0, r1⟩ | ⟨r0, r1⟩ | ⟨r0, r1⟩ | ⟨r0, r1⟩ | ⟨r0, r1⟩ | ⟨r0, r1⟩
  · have q : uN c = 1 ∧ uL c = 0 ∧ uH c = 0 := by
      obtain ⟨q1, q2, q3⟩ := HC.out c
      have q0 : uN c = 1 := by rw [q1]; (repeat' split) <;> omega
      rw [q0] at q2 q3
      refine ⟨q0, ?_, ?_⟩
      · rw [q2]; (repeat' split) <;> omega
      · rw [q3]; (repeat' split) <;> omega
    have t1 : (c : Int) < (128 : Int) := by omega
    have t2 : ¬ (194 : Int) ≤ (c : Int) := by omega
    have t3 : (c : Int) ≤ (223 : Int) := by omega
    have t4 : ¬ (225 : Int) ≤ (c : Int) := by omega
    have t5 : (c : Int) ≤ (239 : Int) := by omega
    have t6 : ¬ (241 : Int) ≤ (c : Int) := by omega
    have t7 : (c : Int) ≤ (243 : Int) := by omega
    have e224 : ((c : Int) == 224) = false := by rw [beq_eq_false_iff_ne]; omega
    have e237 : ((c : Int) == 237) = false := by rw [beq_eq_false_iff_ne]; omega
    have e240 : ((c : Int) == 240) = false := by rw [beq_eq_false_iff_ne]; omega
    have e244 : ((c : Int) == 244) = false := by rw [beq_eq_false_iff_ne]; omega
    have HQ := Lib.hid q; clear q r0 r1
    go_enter Tryz.func192, Tryz.ntmps192
    go_wp2_with fail
    refine bodyPost_ret (res3 rfl _ _) rfl ⟨?_, rfl⟩
    rw [HQ.out.1, HQ.out.2.1, HQ.out.2.2]; rfl
  · have q : uN c = 0 ∧ uL c = 0 ∧ uH c = 0 := by
      obtain ⟨q1, q2, q3⟩ := HC.out c
      have q0 : uN c = 0 := by rw [q1]; (repeat' split) <;> omega
      rw [q0] at q2 q3
      refine ⟨q0, ?_, ?_⟩
      · rw [q2]; (repeat' split) <;> omega
      · rw [q3]; (repeat' split) <;> omega
    have t1 : ¬ (c : Int) < (128 : Int) := by omega
    have t2 : ¬ (194 : Int) ≤ (c : Int) := by omega
    have t3 : (c : Int) ≤ (223 : Int) := by omega
    have t4 : ¬ (225 : Int) ≤ (c : Int) := by omega
    have t5 : (c : Int) ≤ (239 : Int) := by omega
    have t6 : ¬ (241 : Int) ≤ (c : Int) := by omega
    have t7 : (c : Int) ≤ (243 : Int) := by omega
    have e224 : ((c : Int) == 224) = false := by rw [beq_eq_false_iff_ne]; omega
    have e237 : ((c : Int) == 237) = false := by rw [beq_eq_false_iff_ne]; omega
    have e240 : ((c : Int) == 240) = false := by rw [beq_eq_false_iff_ne]; omega
    have e244 : ((c : Int) == 244) = false := by rw [beq_eq_false_iff_ne]; omega
    have HQ := Lib.hid q; clear q r0 r1
    go_enter Tryz.func192, Tryz.ntmps192
    go_wp2_with fail
    refine bodyPost_ret (res3 rfl _ _) rfl ⟨?_, rfl⟩
    rw [HQ.out.1, HQ.out.2.1, HQ.out.2.2]; rfl
  · have q : uN c = 2 ∧ uL c = 128 ∧ uH c = 191 := by
      obtain ⟨q1, q2, q3⟩ := HC.out c
      have q0 : uN c = 2 := by rw [q1]; (repeat' split) <;> omega
      rw [q0] at q2 q3
      refine ⟨q0, ?_, ?_⟩
      · rw [q2]; (repeat' split) <;> omega
      · rw [q3]; (repeat' split) <;> omega
    have t1 : ¬ (c : Int) < (128 : Int) := by omega
    have t2 : (194 : Int) ≤ (c : Int) := by omega
    have t3 : (c : Int) ≤ (223 : Int) := by omega
    have t4 : ¬ (225 : Int) ≤ (c : Int) := by omega
    have t5 : (c : Int) ≤ (239 : Int) := by omega
    have t6 : ¬ (241 : Int) ≤ (c : Int) := by omega
    have t7 : (c : Int) ≤ (243 : Int) := by omega
    have e224 : ((c : Int) == 224) = false := by rw [beq_eq_false_iff_ne]; omega
    have e237 : ((c : Int) == 237) = false := by rw [beq_eq_false_iff_ne]; omega
    have e240 : ((c : Int) == 240) = false := by rw [beq_eq_false_iff_ne]; omega
    have e244 : ((c : Int) == 244) = false := by rw [beq_eq_false_iff_ne]; omega
    have HQ := Lib.hid q; clear q r0 r1
    go_enter Tryz.func192, Tryz.ntmps192
    go_wp2_with fail
    refine bodyPost_ret (res3 rfl _ _) rfl ⟨?_, rfl⟩
    rw [HQ.out.1, HQ.out.2.1, HQ.out.2.2]; rfl
  · have q : uN c = 3 ∧ uL c = 160 ∧ uH c = 191 := by
      obtain ⟨q1, q2, q3⟩ := HC.out c
      have q0 : uN c = 3 := by rw [q1]; (repeat' split) <;> omega
      rw [q0] at q2 q3
      refine ⟨q0, ?_, ?_⟩
      · rw [q2]; (repeat' split) <;> omega
      · rw [q3]; (repeat' split) <;> omega
    have t1 : ¬ (c : Int) < (128 : Int) := by omega
    have t2 : (194 : Int) ≤ (c : Int) := by omega
    have t3 : ¬ (c : Int) ≤ (223 : Int) := by omega
    have t4 : ¬ (225 : Int) ≤ (c : Int) := by omega
    have t5 : (c : Int) ≤ (239 : Int) := by omega
    have t6 : ¬ (241 : Int) ≤ (c : Int) := by omega
    have t7 : (c : Int) ≤ (243 : Int) := by omega
    have e224 : ((c : Int) == 224) = true := by rw [beq_iff_eq]; omega
    have e237 : ((c : Int) == 237) = false := by rw [beq_eq_false_iff_ne]; omega
    have e240 : ((c : Int) == 240) = false := by rw [beq_eq_false_iff_ne]; omega
    have e244 : ((c : Int) == 244) = false := by rw [beq_eq_false_iff_ne]; omega
    have HQ := Lib.hid q; clear q r0 r1
    go_enter Tryz.func192, Tryz.ntmps192
    go_wp2_with fail
    refine bodyPost_ret (res3 rfl _ _) rfl ⟨?_, rfl⟩
    rw [HQ.out.1, HQ.out.2.1, HQ.out.2.2]; rfl
  · have q : uN c = 3 ∧ uL c = 128 ∧ uH c = 191 := by
      obtain ⟨q1, q2, q3⟩ := HC.out c
      have q0 : uN c = 3 := by rw [q1]; (repeat' split) <;> omega
      rw [q0] at q2 q3
      refine ⟨q0, ?_, ?_⟩
      · rw [q2]; (repeat' split) <;> omega
      · rw [q3]; (repeat' split) <;> omega
    have t1 : ¬ (c : Int) < (128 : Int) := by omega
    have t2 : (194 : Int) ≤ (c : Int) := by omega
    have t3 : ¬ (c : Int) ≤ (223 : Int) := by omega
    have t4 : (225 : Int) ≤ (c : Int) := by omega
    have t5 : (c : Int) ≤ (239 : Int) := by omega
    have t6 : ¬ (241 : Int) ≤ (c : Int) := by omega
    have t7 : (c : Int) ≤ (243 : Int) := by omega
    have e224 : ((c : Int) == 224) = false := by rw [beq_eq_false_iff_ne]; omega
    have e237 : ((c : Int) == 237) = false := by rw [beq_eq_false_iff_ne]; omega
    have e240 : ((c : Int) == 240) = false := by rw [beq_eq_false_iff_ne]; omega
    have e244 : ((c : Int) == 244) = false := by rw [beq_eq_false_iff_ne]; omega
    have HQ := Lib.hid q; clear q r0 r1
    go_enter Tryz.func192, Tryz.ntmps192
    go_wp2_with fail
    refine bodyPost_ret (res3 rfl _ _) rfl ⟨?_, rfl⟩
    rw [HQ.out.1, HQ.out.2.1, HQ.out.2.2]; rfl
  · have q : uN c = 3 ∧ uL c = 128 ∧ uH c = 159 := by
      obtain ⟨q1, q2, q3⟩ := HC.out c
      have q0 : uN c = 3 := by rw [q1]; (repeat' split) <;> omega
      rw [q0] at q2 q3
      refine ⟨q0, ?_, ?_⟩
      · rw [q2]; (repeat' split) <;> omega
      · rw [q3]; (repeat' split) <;> omega
    have t1 : ¬ (c : Int) < (128 : Int) := by omega
    have t2 : (194 : Int) ≤ (c : Int) := by omega
    have t3 : ¬ (c : Int) ≤ (223 : Int) := by omega
    have t4 : (225 : Int) ≤ (c : Int) := by omega
    have t5 : (c : Int) ≤ (239 : Int) := by omega
    have t6 : ¬ (241 : Int) ≤ (c : Int) := by omega
    have t7 : (c : Int) ≤ (243 : Int) := by omega
    have e224 : ((c : Int) == 224) = false := by rw [beq_eq_false_iff_ne]; omega
    have e237 : ((c : Int) == 237) = true := by rw [beq_iff_eq]; omega
    have e240 : ((c : Int) == 240) = false := by rw [beq_eq_false_iff_ne]; omega
    have e244 : ((c : Int) == 244) = false := by rw [beq_eq_false_iff_ne]; omega
    have HQ := Lib.hid q; clear q r0 r1
    go_enter Tryz.func192, Tryz.ntmps192
    go_wp2_with fail
    refine bodyPost_ret (res3 rfl _ _) rfl ⟨?_, rfl⟩
    rw [HQ.out.1, HQ.out.2.1, HQ.out.2.2]; rfl
  · have q : uN c = 3 ∧ uL c = 128 ∧ uH c = 191 := by
      obtain ⟨q1, q2, q3⟩ := HC.out c
      have q0 : uN c = 3 := by rw [q1]; (repeat' split) <;> omega
      rw [q0] at q2 q3
      refine ⟨q0, ?_, ?_⟩
      · rw [q2]; (repeat' split) <;> omega
      · rw [q3]; (repeat' split) <;> omega
    have t1 : ¬ (c : Int) < (128 : Int) := by omega
    have t2 : (194 : Int) ≤ (c : Int) := by omega
    have t3 : ¬ (c : Int) ≤ (223 : Int) := by omega
    have t4 : (225 : Int) ≤ (c : Int) := by omega
    have t5 : (c : Int) ≤ (239 : Int) := by omega
    have t6 : ¬ (241 : Int) ≤ (c : Int) := by omega
    have t7 : (c : Int) ≤ (243 : Int) := by omega
    have e224 : ((c : Int) == 224) = false := by rw [beq_eq_false_iff_ne]; omega
    have e237 : ((c : Int) == 237) = false := by rw [beq_eq_false_iff_ne]; omega
    have e240 : ((c : Int) == 240) = false := by rw [beq_eq_false_iff_ne]; omega
    have e244 : ((c : Int) == 244) = false := by rw [beq_eq_false_iff_ne]; omega
    have HQ := Lib.hid q; clear q r0 r1
    go_enter Tryz.func192, Tryz.ntmps192
    go_wp2_with fail
    refine bodyPost_ret (res3 rfl _ _) rfl ⟨?_, rfl⟩
    rw [HQ.out.1, HQ.out.2.1, HQ.out.2.2]; rfl
  · have q : uN c = 4 ∧ uL c = 144 ∧ uH c = 191 := by
      obtain ⟨q1, q2, q3⟩ := HC.out c
      have q0 : uN c = 4 := by rw [q1]; (repeat' split) <;> omega
      rw [q0] at q2 q3
      refine ⟨q0, ?_, ?_⟩
      · rw [q2]; (repeat' split) <;> omega
      · rw [q3]; (repeat' split) <;> omega
    have t1 : ¬ (c : Int) < (128 : Int) := by omega
    have t2 : (194 : Int) ≤ (c : Int) := by omega
    have t3 : ¬ (c : Int) ≤ (223 : Int) := by omega
    have t4 : (225 : Int) ≤ (c : Int) := by omega
    have t5 : ¬ (c : Int) ≤ (239 : Int) := by omega
    have t6 : ¬ (241 : Int) ≤ (c : Int) := by omega
    have t7 : (c : Int) ≤ (243 : Int) := by omega
    have e224 : ((c : Int) == 224) = false := by rw [beq_eq_false_iff_ne]; omega
    have e237 : ((c : Int) == 237) = false := by rw [beq_eq_false_iff_ne]; omega
    have e240 : ((c : Int) == 240) = true := by rw [beq_iff_eq]; omega
    have e244 : ((c : Int) == 244) = false := by rw [beq_eq_false_iff_ne]; omega
    have HQ := Lib.hid q; clear q r0 r1
    go_enter Tryz.func192, Tryz.ntmps192
    go_wp2_with fail
    refine bodyPost_ret (res3 rfl _ _) rfl ⟨?_, rfl⟩
    rw [HQ.out.1, HQ.out.2.1, HQ.out.2.2]; rfl
  · have q : uN c = 4 ∧ uL c = 128 ∧ uH c = 191 := by
      obtain ⟨q1, q2, q3⟩ := HC.out c
      have q0 : uN c = 4 := by rw [q1]; (repeat' split) <;> omega
      rw [q0] at q2 q3
      refine ⟨q0, ?_, ?_⟩
      · rw [q2]; (repeat' split) <;> omega
      · rw [q3]; (repeat' split) <;> omega
    have t1 : ¬ (c : Int) < (128 : Int) := by omega
    have t2 : (194 : Int) ≤ (c : Int) := by omega
    have t3 : ¬ (c : Int) ≤ (223 : Int) := by omega
    have t4 : (225 : Int) ≤ (c : Int) := by omega
    have t5 : ¬ (c : Int) ≤ (239 : Int) := by omega
    have t6 : (241 : Int) ≤ (c : Int) := by omega
    have t7 : (c : Int) ≤ (243 : Int) := by omega
    have e224 : ((c : Int) == 224) = false := by rw [beq_eq_false_iff_ne]; omega
    have e237 : ((c : Int) == 237) = false := by rw [beq_eq_false_iff_ne]; omega
    have e240 : ((c : Int) == 240) = false := by rw [beq_eq_false_iff_ne]; omega
    have e244 : ((c : Int) == 244) = false := by rw [beq_eq_false_iff_ne]; omega
    have HQ := Lib.hid q; clear q r0 r1
    go_enter Tryz.func192, Tryz.ntmps192
    go_wp2_with fail
    refine bodyPost_ret (res3 rfl _ _) rfl ⟨?_, rfl⟩
    rw [HQ.out.1, HQ.out.2.1, HQ.out.2.2]; rfl
  · have q : uN c = 4 ∧ uL c = 128 ∧ uH c = 143 := by
      obtain ⟨q1, q2, q3⟩ := HC.out c
      have q0 : uN c = 4 := by rw [q1]; (repeat' split) <;> omega
      rw [q0] at q2 q3
      refine ⟨q0, ?_, ?_⟩
      · rw [q2]; (repeat' split) <;> omega
      · rw [q3]; (repeat' split) <;> omega
    have t1 : ¬ (c : Int) < (128 : Int) := by omega
    have t2 : (194 : Int) ≤ (c : Int) := by omega
    have t3 : ¬ (c : Int) ≤ (223 : Int) := by omega
    have t4 : (225 : Int) ≤ (c : Int) := by omega
    have t5 : ¬ (c : Int) ≤ (239 : Int) := by omega
    have t6 : (241 : Int) ≤ (c : Int) := by omega
    have t7 : ¬ (c : Int) ≤ (243 : Int) := by omega
    have e224 : ((c : Int) == 224) = false := by rw [beq_eq_false_iff_ne]; omega
    have e237 : ((c : Int) == 237) = false := by rw [beq_eq_false_iff_ne]; omega
    have e240 : ((c : Int) == 240) = false := by rw [beq_eq_false_iff_ne]; omega
    have e244 : ((c : Int) == 244) = true := by rw [beq_iff_eq]; omega
    have HQ := Lib.hid q; clear q r0 r1
    go_enter Tryz.func192, Tryz.ntmps192
    go_wp2_with fail
    refine bodyPost_ret (res3 rfl _ _) rfl ⟨?_, rfl⟩
    rw [HQ.out.1, HQ.out.2.1, HQ.out.2.2]; rfl
  · have q : uN c = 0 ∧ uL c = 0 ∧ uH c = 0 := by
      obtain ⟨q1, q2, q3⟩ := HC.out c
      have q0 : uN c = 0 := by rw [q1]; (repeat' split) <;> omega
      rw [q0] at q2 q3
      refine ⟨q0, ?_, ?_⟩
      · rw [q2]; (repeat' split) <;> omega
      · rw [q3]; (repeat' split) <;> omega
    have t1 : ¬ (c : Int) < (128 : Int) := by omega
    have t2 : (194 : Int) ≤ (c : Int) := by omega
    have t3 : ¬ (c : Int) ≤ (223 : Int) := by omega
    have t4 : (225 : Int) ≤ (c : Int) := by omega
    have t5 : ¬ (c : Int) ≤ (239 : Int) := by omega
    have t6 : (241 : Int) ≤ (c : Int) := by omega
    have t7 : ¬ (c : Int) ≤ (243 : Int) := by omega
    have e224 : ((c : Int) == 224) = false := by rw [beq_eq_false_iff_ne]; omega
    have e237 : ((c : Int) == 237) = false := by rw [beq_eq_false_iff_ne]; omega
    have e240 : ((c : Int) == 240) = false := by rw [beq_eq_false_iff_ne]; omega
    have e244 : ((c : Int) == 244) = false := by rw [beq_eq_false_iff_ne]; omega
    have HQ := Lib.hid q; clear q r0 r1
    go_enter Tryz.func192, Tryz.ntmps192
    go_wp2_with fail
    refine bodyPost_ret (res3 rfl _ _) rfl ⟨?_, rfl⟩
    rw [HQ.out.1, HQ.out.2.1, HQ.out.2.2]; rfl
def strSz : Value → Nat
  | .string s => s.size
  | _ => 0
set_option maxRecDepth 100000 in
set_option maxHeartbeats 4000000 in
theorem letters_any (w : World) (s : ByteArray) (hs : s.size ≤ 1000000) :
    Calls Tryz.prog 163 #[.string s] w fun e w' => e = .returned (.bool (utfD 0 0 0 s.data.toList)) ∧ w = w' := by
  obtain ⟨U, hU⟩ : ∃ U, utfD 0 0 0 s.data.toList = U := ⟨_, rfl⟩
  rw [hU]
  go_enter Tryz.func163, Tryz.ntmps163
  go_wp2_with fail
  go_loopw [0, 2, 3, 4, 5, 6] (fun x r _ _ _ _ wr => ∃ X : ByteArray, x = .string X ∧ r = .bool false ∧ X.size ≤ s.size ∧ utfD 0 0 0 X.data.toList = U ∧ w = wr) (fun x _ _ _ _ _ _ => strSz x)
  case atStart => exact ⟨s, rfl, rfl, Nat.le_refl _, hU, rfl⟩
  case round =>
    obtain ⟨X, rfl, rfl, hX, hu, rfl⟩ := hrel
    by_cases h0 : X.size = 0
    · have hl : X.data.toList = [] := List.length_eq_zero_iff.1 (by simpa using h0)
      have hne : X.toList.isEmpty = true := by rw [ByteArray.toList_eq, hl]; rfl
      rw [hl, utfD_nil] at hu
      have HU := Lib.hid hu.symm; clear hu hl
      go_wp2_with fail
      go_ret
      exact ⟨by rw [HU.out]; first | done | rfl, rfl⟩
    · have hp : 0 < X.size := by omega
      have hne : X.toList.isEmpty = false := by
        rw [ByteArray.toList_eq]
        cases hd : X.data.toList with
        | nil => exact absurd (by have := congrArg List.length hd; simpa using this) h0
        | cons a l => rfl
      have hu0 : utfD 0 0 0 (X.data.toList.drop 0) = U := hu
      rw [utfD_at0 X 0 0 0 hp] at hu0
      have hL := letter_any w X (by omega) hp
      have hn4 := uN_le X[0].toNat
      have hlo := uLo_le X[0].toNat
      have hLd : uN X[0].toNat ≤ 1 ∨ (uL X[0].toNat = uLo X[0].toNat ∧ uH X[0].toNat = uHi X[0].toNat) := by
        unfold uL uH
        by_cases h : uN X[0].toNat ≤ 1
        · exact .inl h
        · exact .inr ⟨by rw [if_neg h], by rw [if_neg h]⟩
      generalize uN X[0].toNat = N at *
      generalize uL X[0].toNat = a at *
      generalize uH X[0].toNat = b at *
      generalize uLo X[0].toNat = lo at *
      generalize uHi X[0].toNat = hi at *
      have HL := Lib.hid hL; clear hL
      have HU := Lib.hid hu0; clear hu0 hu
      by_cases hN0 : N = 0
      · subst hN0
        have HF := Lib.hid (show U = false by rw [← HU.out, if_pos rfl])
        go_wp2_with fail
        refine HL.out.mono ?_
        rintro e w1 ⟨rfl, rfl⟩
        go_wp2_with fail
        go_ret
        exact ⟨by rw [HF.out]; first | done | rfl, rfl⟩
      have hNb : ((N : Int) == 0) = false := by rw [beq_eq_false_iff_ne]; omega
      by_cases hNl : X.size < N
      · have HF := Lib.hid (show U = false by rw [← HU.out, if_neg hN0, utfD_at_short X _ _ _ _ (by omega) (by omega)])
        go_wp2_with fail
        refine HL.out.mono ?_
        rintro e w1 ⟨rfl, rfl⟩
        go_wp2_with fail
        go_ret
        exact ⟨by rw [HF.out]; first | done | rfl, rfl⟩
      by_cases hbad : ∃ h : 1 < X.size, 2 ≤ N ∧ (X[1].toNat < a ∨ b < X[1].toNat)
      · obtain ⟨h1X, h2N, hb⟩ := hbad
        obtain ⟨hab1, hab2⟩ : a = lo ∧ b = hi := by
          rcases hLd with h | h
          · omega
          · exact h
        subst hab1 hab2
        obtain ⟨M, rfl⟩ : ∃ M, N = M + 2 := ⟨N - 2, by omega⟩
        have h1 := HU.out
        rw [if_neg hN0, show M + 2 - 1 = M + 1 by omega, Nat.zero_add, utfD_at X M a b 1 h1X, if_neg (by omega)] at h1
        have HF := Lib.hid h1.symm; clear h1 HU
        generalize hx1 : X[1].toNat = x1 at *
        have hx1I : ((X[1].toNat : Nat) : Int) = x1 := by rw [hx1]
        clear hx1
        have hN1I : (1 : Int) < ((M + 2 : Nat) : Int) := by omega
        by_cases hA : x1 < a
        · clear hb
          go_wp2_with fail
          refine HL.out.mono ?_
          rintro e w1 ⟨rfl, rfl⟩
          go_wp2_with fail
          go_ret
          exact ⟨by rw [HF.out]; first | done | rfl, rfl⟩
        · have hB : b < x1 := by omega
          clear hb
          go_wp2_with fail
          refine HL.out.mono ?_
          rintro e w1 ⟨rfl, rfl⟩
          go_wp2_with fail
          go_ret
          exact ⟨by rw [HF.out]; first | done | rfl, rfl⟩
      have hgood : utfD (N - 2) 128 191 (X.data.toList.drop (min 2 N)) = U := by
        rw [← HU.out, if_neg hN0]
        by_cases hN1 : N = 1
        · subst hN1
          exact (utfD_zero _ _ _).trans (utfD_zero _ _ _).symm
        · have h1X : 1 < X.size := by omega
          obtain ⟨hab1, hab2⟩ : a = lo ∧ b = hi := by
            rcases hLd with h | h
            · omega
            · exact h
          subst hab1 hab2
          obtain ⟨M, rfl⟩ : ∃ M, N = M + 2 := ⟨N - 2, by omega⟩
          have hng : ¬ (X[1].toNat < a ∨ b < X[1].toNat) := fun h => hbad ⟨h1X, by omega, h⟩
          rw [show M + 2 - 1 = M + 1 by omega, Nat.zero_add, utfD_at X M a b 1 h1X, if_pos (by omega), show M + 2 - 2 = M by omega, show min 2 (M + 2) = 2 by omega]
      have HG := Lib.hid hgood; clear hgood HU
      have HLD := Lib.hid (And.intro hLd hbad); clear hLd hbad
      go_wp2_with fail
      refine HL.out.mono ?_
      rintro e w1 ⟨rfl, rfl⟩
      go_upto_region 3 with fail
      go_cut [38] from 15 to 38 (fun v wx => v = .bool false ∧ wx = w)
      case first =>
        by_cases hN1 : N = 1
        · subst hN1
          have hX1 : ¬ (X.size : Int) < 1 := by omega
          go_wp2_with fail
          go_meet
          case rel => exact ⟨rfl, rfl⟩
        · have h1X : 1 < X.size := by omega
          have hng : ¬ (X[1].toNat < a ∨ b < X[1].toNat) := fun h => HLD.out.2 ⟨h1X, by omega, h⟩
          have hN1I : (1 : Int) < (N : Int) := by omega
          generalize hx1 : X[1].toNat = x1 at *
          have hx1I : ((X[1].toNat : Nat) : Int) = x1 := by rw [hx1]
          have hA : ¬ x1 < a := by omega
          have hB : ¬ b < x1 := by omega
          clear hx1 hng
          go_wp2_with fail
          go_meet
          case rel => exact ⟨rfl, rfl⟩
      case rest =>
        obtain ⟨rfl, rfl⟩ := hcut
        clear HL HLD
        go_wp2_with fail
        go_loopw [2, 6] (fun r iv wr => ∃ i : Nat, 2 ≤ i ∧ i ≤ max 2 N ∧ r = .bool false ∧ iv = .int .i64 i ∧ utfD (N - i) 128 191 (X.data.toList.drop (min i N)) = U ∧ wc = wr) (fun _ iv _ => N - (intOf iv).toNat)
        case atStart => exact ⟨2, Nat.le_refl _, by omega, rfl, rfl, HG.out, rfl⟩
        case round =>
          obtain ⟨i, hi2, hiN, rfl, rfl, hu, rfl⟩ := hrel
          by_cases hlt : i < N
          · have hiX : i < X.size := by omega
            have hmin : min i N = i := by omega
            rw [hmin, show N - i = (N - (i + 1)) + 1 by omega, utfD_at X _ 128 191 i hiX] at hu
            have HU := Lib.hid hu; clear hu HG
            have hc1 : X[i].toNat < 256 := X[i].toNat_lt
            generalize hx1 : X[i].toNat = x1 at *
            have hx1I : ((X[i].toNat : Nat) : Int) = x1 := by rw [hx1]
            clear hx1
            by_cases hA : (x1 : Int) < 128
            · have HF := Lib.hid (show U = false by rw [← HU.out, if_neg (by omega)])
              go_wp2_with fail
              go_ret
              exact ⟨by rw [HF.out]; first | done | rfl, rfl⟩
            · by_cases hB : (191 : Int) < x1
              · have HF := Lib.hid (show U = false by rw [← HU.out, if_neg (by omega)])
                go_wp2_with fail
                go_ret
                exact ⟨by rw [HF.out]; first | done | rfl, rfl⟩
              · have HF := Lib.hid (show utfD (N - (i + 1)) 128 191 (X.data.toList.drop (min (i + 1) N)) = U by rw [show min (i + 1) N = i + 1 by omega, ← HU.out, if_pos (by omega)])
                go_wp2_with fail
                go_roundw
                case rel => exact ⟨i + 1, by omega, by omega, rfl, by go_num, HF.out, by simp⟩
                case measure => simp [intOf]; omega
          · have hmin : min i N = N := by omega
            rw [hmin, show N - i = 0 by omega] at hu
            have hd := ext_drop X N
            have hsz : (X.extract N X.size).size = X.size - N := by rw [ByteArray.size_extract]; omega
            have HD := Lib.hid hd; clear hd
            have HV := Lib.hid (show utfD 0 0 0 (X.data.toList.drop N) = U from (utfD_zero _ _ _).symm.trans hu)
            clear hu HG
            go_wp2_with fail
            go_roundw
            case rel => exact ⟨_, rfl, rfl, by omega, by rw [HD.out]; exact HV.out, by simp⟩
            case measure => simp [strSz]; omega
end Go.Proofs.YtnpehjgnplaabaaGreatDoor
