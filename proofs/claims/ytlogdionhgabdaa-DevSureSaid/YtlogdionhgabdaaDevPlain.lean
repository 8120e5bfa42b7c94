/- A device of sectors, plainly: no program in sight. -/
import Derived.Test.YtlogdionhgabdaaKit
set_option linter.unusedVariables false
set_option linter.unusedSimpArgs false
namespace Sw
structure Dv where
  size : Nat
  sure : List ByteArray
  wet : List (Int × ByteArray)
  limit : Int
  fuse : Int
  off : Bool
  ops : Int
/-- a sector of one byte -/
def secS (b : UInt8) : ByteArray := ⟨(List.replicate 512 b).toArray⟩
theorem secS_size (b : UInt8) : (secS b).size = 512 := by
  show (List.replicate 512 b).toArray.size = 512
  rw [List.size_toArray, List.length_replicate]
def zS : ByteArray := secS 0
theorem zS_size : zS.size = 512 := secS_size 0
/-- what was written at i, in order -/
def wetAt (l : List (Int × ByteArray)) (i : Int) : List ByteArray := (l.filter fun e => e.1 == i).map (·.2)
theorem wetAt_nil (i : Int) : wetAt [] i = [] := rfl
theorem wetAt_snoc (l : List (Int × ByteArray)) (j : Int) (s : ByteArray) (i : Int) : wetAt (l ++ [(j, s)]) i = if j = i then wetAt l i ++ [s] else wetAt l i := by
  unfold wetAt
  rw [List.filter_append, List.map_append]
  by_cases h : j = i
  · rw [if_pos h]; simp [h]
  · rw [if_neg h]; simp [h]
theorem wetAt_len (l : List (Int × ByteArray)) (i : Int) : (wetAt l i).length ≤ l.length := by
  unfold wetAt
  rw [List.length_map]
  exact List.length_filter_le _ _
theorem wetAt_mem {l : List (Int × ByteArray)} {i : Int} {s : ByteArray} (h : s ∈ wetAt l i) : (i, s) ∈ l := by
  unfold wetAt at h
  obtain ⟨e, he, rfl⟩ := List.mem_map.1 h
  obtain ⟨h1, h2⟩ := List.mem_filter.1 he
  have : e.1 = i := by simpa using h2
  rw [← this]
  exact h1
/-- what holds of a device at all times -/
structure Dv.Ok (d : Dv) : Prop where
  len : d.sure.length = d.size
  size : d.size ≤ 8192
  wet : ∀ e ∈ d.wet, 0 ≤ e.1 ∧ e.1 < d.size
  f0 : -1 ≤ d.fuse
  f1 : d.fuse ≤ 9223372036854775807
  l0 : -1 ≤ d.limit
  l1 : d.limit ≤ 9223372036854775807
  o0 : 0 ≤ d.ops
theorem Dv.Ok.key {d : Dv} (h : d.Ok) {i : Int} (hi : wetAt d.wet i ≠ []) : 0 ≤ i ∧ i < d.size := by
  obtain ⟨s, hs⟩ := List.exists_mem_of_ne_nil _ hi
  exact h.wet _ (wetAt_mem hs)
def newD (n : Int) : Dv := ⟨(max 0 (min n 8192)).toNat, List.replicate (max 0 (min n 8192)).toNat zS, [], -1, -1, false, 0⟩
theorem newD_ok (n : Int) : (newD n).Ok := ⟨by simp [newD], by show (max 0 (min n 8192)).toNat ≤ 8192; omega, fun e he => (by cases he), by show (-1 : Int) ≤ -1; decide, by show (-1 : Int) ≤ 9223372036854775807; decide, by show (-1 : Int) ≤ -1; decide, by show (-1 : Int) ≤ 9223372036854775807; decide, by show (0 : Int) ≤ 0; decide⟩
def Dv.read (d : Dv) (i : Int) : ByteArray := if i < 0 ∨ (d.size : Int) ≤ i then ⟨#[]⟩ else ((wetAt d.wet i).getLast?).getD (d.sure.getD i.toNat zS)
/-- one more was done -/
def Dv.pow (d : Dv) : Dv := { d with fuse := max (d.fuse - 1) (-1), ops := d.ops + 1 }
def Dv.gone (d : Dv) : Dv := { d with off := true }
def Dv.write (d : Dv) (i : Int) (s : ByteArray) : Int × Dv :=
  if d.off = true then (10, d) else if s.size ≠ 512 ∨ i < 0 ∨ (d.size : Int) ≤ i then (1, d) else if 0 ≤ d.limit ∧ d.limit ≤ i then (9, d) else if d.fuse = 0 then (10, d.gone) else (0, { d.pow with wet := d.wet ++ [(i, s)] })
def flushL (S : List ByteArray) : List (Int × ByteArray) → List ByteArray
  | [] => S
  | e :: l => flushL (S.set e.1.toNat e.2) l
theorem flushL_snoc : ∀ (l : List (Int × ByteArray)) (S : List ByteArray) (e : Int × ByteArray), flushL S (l ++ [e]) = (flushL S l).set e.1.toNat e.2
  | [], S, e => rfl
  | x :: l, S, e => by rw [List.cons_append, flushL, flushL_snoc l]; rfl
theorem flushL_len : ∀ (l : List (Int × ByteArray)) (S : List ByteArray), (flushL S l).length = S.length
  | [], S => rfl
  | e :: l, S => by rw [flushL, flushL_len l, List.length_set]
theorem flushL_get : ∀ (n : Nat) (l : List (Int × ByteArray)) (S : List ByteArray), l.length = n → (∀ e ∈ l, 0 ≤ e.1) → ∀ (i : Nat), i < S.length → (flushL S l).getD i zS = ((wetAt l i).getLast?).getD (S.getD i zS)
  | 0, l, S, hn, _, i, _ => by
    obtain rfl := List.length_eq_zero_iff.1 hn
    rfl
  | n + 1, l, S, hn, h0, i, hi => by
    obtain ⟨l', e, rfl⟩ : ∃ l' e, l = l' ++ [e] := ⟨l.dropLast, l.getLast (by intro h; rw [h] at hn; cases hn), (List.dropLast_concat_getLast _).symm⟩
    have hn' : l'.length = n := by simpa using hn
    have ih := flushL_get n l' S hn' (fun x hx => h0 x (List.mem_append_left _ hx)) i hi
    have he := h0 e (by simp)
    rw [flushL_snoc]
    obtain ⟨j, s⟩ := e
    rw [wetAt_snoc]
    by_cases hji : j = i
    · rw [if_pos hji]
      subst hji
      have hl : i < (flushL S l').length := by rw [flushL_len]; exact hi
      simp [List.getD_eq_getElem?_getD, List.getElem?_set, hl]
    · rw [if_neg hji, ← ih]
      have hne : ¬ j.toNat = i := by
        intro h
        apply hji
        have : (0 : Int) ≤ j := he
        omega
      simp [List.getD_eq_getElem?_getD, List.getElem?_set, hne]
def Dv.flush (d : Dv) : Int × Dv := if d.off = true then (10, d) else if d.fuse = 0 then (10, d.gone) else (0, { d.pow with sure := flushL d.sure d.wet, wet := [] })
/-- which of the writes is kept -/
def kOf (keep : List Int) (n len : Nat) : Nat := if keep.length = 0 then 0 else (max 0 (keep.getD (n % keep.length) 0)).toNat % (len + 1)
def keepS (keep : List Int) (wet : List (Int × ByteArray)) (n i : Nat) (S : List ByteArray) : List ByteArray :=
  if 0 < kOf keep n (wetAt wet i).length then S.set i ((wetAt wet i).getD (kOf keep n (wetAt wet i).length - 1) zS) else S
def restL (keep : List Int) (wet : List (Int × ByteArray)) : List Nat → Nat → List ByteArray → List ByteArray
  | [], _, S => S
  | i :: is, n, S => restL keep wet is (n + 1) (keepS keep wet n i S)
theorem restL_snoc (keep : List Int) (wet : List (Int × ByteArray)) : ∀ (is : List Nat) (n : Nat) (S : List ByteArray) (i : Nat), restL keep wet (is ++ [i]) n S = keepS keep wet (n + is.length) i (restL keep wet is n S)
  | [], n, S, i => rfl
  | x :: is, n, S, i => by
    rw [List.cons_append, restL, restL_snoc keep wet is, List.length_cons, restL, show n + 1 + is.length = n + (is.length + 1) by omega]
theorem keepS_len (keep : List Int) (wet : List (Int × ByteArray)) (n i : Nat) (S : List ByteArray) : (keepS keep wet n i S).length = S.length := by
  unfold keepS
  split
  · exact List.length_set
  · rfl
theorem restL_len (keep : List Int) (wet : List (Int × ByteArray)) : ∀ (is : List Nat) (n : Nat) (S : List ByteArray), (restL keep wet is n S).length = S.length
  | [], _, _ => rfl
  | i :: is, n, S => by rw [restL, restL_len keep wet is, keepS_len]
/-- where something was written, in order -/
def keysD (size : Nat) (wet : List (Int × ByteArray)) : List Nat := (List.range size).filter fun i => !(wetAt wet i).isEmpty
theorem keysD_succ (n : Nat) (wet : List (Int × ByteArray)) : keysD (n + 1) wet = keysD n wet ++ (if (wetAt wet n).isEmpty then [] else [n]) := by
  unfold keysD
  rw [List.range_succ, List.filter_append]
  by_cases h : (wetAt wet n).isEmpty
  · simp [h]
  · simp [h]
def Dv.restart (d : Dv) (keep : List Int) : Dv := { d with sure := restL keep d.wet (keysD d.size d.wet) 0 d.sure, wet := [], off := false, fuse := -1 }
theorem Dv.Ok.pow {d : Dv} (h : d.Ok) : d.pow.Ok := ⟨h.len, h.size, h.wet, by show -1 ≤ max (d.fuse - 1) (-1); omega, by show max (d.fuse - 1) (-1) ≤ 9223372036854775807; have := h.f1; omega, h.l0, h.l1, by show 0 ≤ d.ops + 1; have := h.o0; omega⟩
theorem Dv.Ok.gone {d : Dv} (h : d.Ok) : d.gone.Ok := ⟨h.len, h.size, h.wet, h.f0, h.f1, h.l0, h.l1, h.o0⟩
theorem Dv.Ok.write {d : Dv} (h : d.Ok) (i : Int) (s : ByteArray) : (d.write i s).2.Ok := by
  unfold Dv.write
  split
  · exact h
  · split
    · exact h
    · split
      · exact h
      · split
        · exact h.gone
        · rename_i h1 _ _
          have hp := h.pow
          refine ⟨hp.len, hp.size, fun e he => ?_, hp.f0, hp.f1, hp.l0, hp.l1, hp.o0⟩
          rcases List.mem_append.1 he with he | he
          · exact h.wet e he
          · simp only [List.mem_singleton] at he
            subst he
            show 0 ≤ i ∧ i < d.size
            omega
theorem Dv.Ok.flush {d : Dv} (h : d.Ok) : (d.flush).2.Ok := by
  unfold Dv.flush
  split
  · exact h
  · split
    · exact h.gone
    · have hp := h.pow
      exact ⟨by show (flushL d.sure d.wet).length = d.size; rw [flushL_len]; exact h.len, hp.size, fun e he => (by cases he), hp.f0, hp.f1, hp.l0, hp.l1, hp.o0⟩
theorem Dv.Ok.restart {d : Dv} (h : d.Ok) (keep : List Int) : (d.restart keep).Ok :=
  ⟨by show (restL keep d.wet (keysD d.size d.wet) 0 d.sure).length = d.size; rw [restL_len]; exact h.len, h.size, fun e he => (by cases he), by show (-1 : Int) ≤ -1; decide, by show (-1 : Int) ≤ 9223372036854775807; decide, h.l0, h.l1, h.o0⟩
end Sw
