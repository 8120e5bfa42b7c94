/- What was flushed stays: plain. -/
import Derived.Test.YtlogdionhgabdaaDevFusePlain
import Derived.Test.YtlogdionhgabdaaStep17
set_option linter.unusedVariables false
set_option linter.unusedSimpArgs false
namespace Sw
open Go
structure SuI (i : Nat) (d : Dv) : Prop where
  ok : d.Ok
  sz : d.size = 12
  lim : d.limit = -1
  fu : d.fuse = -1
  off : d.off = false
  op : d.ops ≤ i
  wl : d.wet.length ≤ i
  ss : ∀ s ∈ d.sure, s.size = 512
  ws : ∀ e ∈ d.wet, e.2.size = 512
theorem SuI.start : SuI 0 (newD 12) :=
  ⟨newD_ok 12, rfl, rfl, rfl, rfl, by show (0 : Int) ≤ ((0 : Nat) : Int); omega, Nat.le_refl _, fun s hs => by
    have h : s ∈ List.replicate 12 zS := hs
    rw [List.eq_of_mem_replicate h]
    exact zS_size, fun e he => (by cases he)⟩
theorem SuI.more {i j : Nat} {d : Dv} (h : SuI i d) (hij : i ≤ j) : SuI j d := ⟨h.ok, h.sz, h.lim, h.fu, h.off, by have := h.op; omega, by have := h.wl; omega, h.ss, h.ws⟩
/-- a write of a device that has power and room -/
theorem SuI.write {i : Nat} {d : Dv} (h : SuI i d) (p : Int) (b : UInt8) :
    SuI (i + 1) (d.write p (secS b)).2 ∧ (d.write p (secS b)).2.sure = d.sure ∧ ∀ e ∈ (d.write p (secS b)).2.wet, e ∈ d.wet ∨ e = (p, secS b) := by
  have hok := h.ok.write p (secS b)
  unfold Dv.write at hok ⊢
  rw [if_neg (by rw [h.off]; decide)] at hok ⊢
  by_cases hbad : (secS b).size ≠ 512 ∨ p < 0 ∨ (d.size : Int) ≤ p
  · rw [if_pos hbad]
    exact ⟨h.more (Nat.le_succ _), rfl, fun e he => .inl he⟩
  · rw [if_neg hbad] at hok ⊢
    rw [if_neg (by rw [h.lim]; omega), if_neg (by rw [h.fu]; decide)] at hok ⊢
    refine ⟨⟨hok, h.sz, h.lim, ?_, h.off, ?_, ?_, h.ss, fun e he => ?_⟩, rfl, fun e he => ?_⟩
    · show max (d.fuse - 1) (-1) = -1
      rw [h.fu]
      rfl
    · show d.ops + 1 ≤ ((i + 1 : Nat) : Int)
      have := h.op
      omega
    · show (d.wet ++ [(p, secS b)]).length ≤ i + 1
      rw [List.length_append]
      have := h.wl
      simp
      exact this
    · rcases List.mem_append.1 he with he | he
      · exact h.ws e he
      · simp only [List.mem_singleton] at he
        rw [he]
        exact secS_size b
    · rcases List.mem_append.1 he with he | he
      · exact .inl he
      · simp only [List.mem_singleton] at he
        exact .inr he
theorem flushL_mem : ∀ (l : List (Int × ByteArray)) (S : List ByteArray) (s : ByteArray), s ∈ flushL S l → s ∈ S ∨ ∃ e ∈ l, e.2 = s
  | [], S, s, h => .inl h
  | e :: l, S, s, h => by
    rcases flushL_mem l _ s h with h1 | ⟨x, hx, hs⟩
    · rcases List.mem_or_eq_of_mem_set h1 with h2 | h2
      · exact .inl h2
      · exact .inr ⟨e, by simp, h2.symm⟩
    · exact .inr ⟨x, List.mem_cons_of_mem _ hx, hs⟩
theorem SuI.flush {i : Nat} {d : Dv} (h : SuI i d) : d.flush.1 = 0 ∧ SuI (i + 1) d.flush.2 ∧ d.flush.2.wet = [] := by
  have hok := h.ok.flush
  unfold Dv.flush at hok ⊢
  rw [if_neg (by rw [h.off]; decide), if_neg (by rw [h.fu]; decide)] at hok ⊢
  refine ⟨rfl, ⟨hok, h.sz, h.lim, ?_, h.off, ?_, Nat.zero_le _, fun s hs => ?_, fun e he => (by cases he)⟩, rfl⟩
  · show max (d.fuse - 1) (-1) = -1
    rw [h.fu]
    rfl
  · show d.ops + 1 ≤ ((i + 1 : Nat) : Int)
    have := h.op
    omega
  · rcases flushL_mem d.wet d.sure s hs with h1 | ⟨e, he, h1⟩
    · exact h.ss s h1
    · rw [← h1]
      exact h.ws e he
theorem keepS_or (keep : List Int) (wet : List (Int × ByteArray)) (n i j : Nat) (S : List ByteArray) (hj : j < S.length) : (keepS keep wet n i S).getD j zS = S.getD j zS ∨ (keepS keep wet n i S).getD j zS ∈ wetAt wet j := by
  unfold keepS
  split
  · rename_i hk
    by_cases hij : i = j
    · subst hij
      right
      have hle : kOf keep n (wetAt wet i).length ≤ (wetAt wet i).length := by
        unfold kOf
        split
        · exact Nat.zero_le _
        · have := Nat.mod_lt (max 0 (keep.getD (n % keep.length) 0)).toNat (show 0 < (wetAt wet i).length + 1 by omega)
          omega
      rw [List.getD_eq_getElem?_getD, List.getElem?_set_self hj, Option.getD_some, List.getD_eq_getElem?_getD, List.getElem?_eq_getElem (show kOf keep n (wetAt wet i).length - 1 < (wetAt wet i).length by omega)]
      exact List.getElem_mem _
    · left
      rw [List.getD_eq_getElem?_getD, List.getElem?_set_ne hij, ← List.getD_eq_getElem?_getD]
  · exact .inl rfl
theorem restL_or (keep : List Int) (wet : List (Int × ByteArray)) : ∀ (is : List Nat) (n : Nat) (S : List ByteArray) (j : Nat), j < S.length → (restL keep wet is n S).getD j zS = S.getD j zS ∨ (restL keep wet is n S).getD j zS ∈ wetAt wet j
  | [], _, _, _, _ => .inl rfl
  | i :: is, n, S, j, hj => by
    rw [restL]
    rcases restL_or keep wet is (n + 1) (keepS keep wet n i S) j (by rw [keepS_len]; exact hj) with h | h
    · rw [h]
      exact keepS_or keep wet n i j S hj
    · exact .inr h
theorem SuI.read {i : Nat} {d : Dv} (h : SuI i d) (hw : d.wet = []) (a : Nat) (ha : a < 12) : d.read a = d.sure.getD a zS := by
  unfold Dv.read
  rw [if_neg (by rw [h.sz]; omega), hw]
  rfl
theorem SuI.restart {i : Nat} {d : Dv} (h : SuI i d) (keep : List Int) : (d.restart keep).Ok ∧ (d.restart keep).wet = [] ∧ (d.restart keep).off = false ∧
    ∀ a : Nat, a < 12 → ((d.restart keep).read a = d.sure.getD a zS ∨ (d.restart keep).read a ∈ wetAt d.wet a) ∧ ((d.restart keep).read a).size = 512 := by
  have hlen : d.sure.length = 12 := h.ok.len.trans h.sz
  refine ⟨h.ok.restart keep, rfl, rfl, fun a ha => ?_⟩
  have hr : (d.restart keep).read a = (restL keep d.wet (keysD d.size d.wet) 0 d.sure).getD a zS := by
    unfold Dv.read
    rw [if_neg (show ¬ ((a : Int) < 0 ∨ ((d.restart keep).size : Int) ≤ a) by rw [show (d.restart keep).size = d.size from rfl, h.sz]; omega)]
    rfl
  rw [hr]
  have hor := restL_or keep d.wet (keysD d.size d.wet) 0 d.sure a (by omega)
  refine ⟨hor, ?_⟩
  rcases hor with h1 | h1
  · rw [h1, List.getD_eq_getElem?_getD, List.getElem?_eq_getElem (show a < d.sure.length by omega)]
    exact h.ss _ (List.getElem_mem _)
  · exact h.ws _ (wetAt_mem h1)
/-- whether a step of l wrote q at a -/
def wroteB (l : List St17) (a : Int) (q : ByteArray) : Bool := l.any fun s => decide (s.pos = a) && decide (q = secS s.b)
theorem wroteB_snoc (l : List St17) (s : St17) (a : Int) (q : ByteArray) : wroteB (l ++ [s]) a q = (wroteB l a q || (decide (s.pos = a) && decide (q = secS s.b))) := by
  unfold wroteB
  rw [List.any_append]
  simp
/-- the array of what was sure, a of it filled -/
def arrS (S : List ByteArray) (a : Nat) : Array Value := ((List.range 12).map fun i => if i < a then Value.string (S.getD i zS) else .string ⟨#[]⟩).toArray
theorem arrS_zero (S : List ByteArray) : arrS S 0 = #[.string ⟨#[]⟩, .string ⟨#[]⟩, .string ⟨#[]⟩, .string ⟨#[]⟩, .string ⟨#[]⟩, .string ⟨#[]⟩, .string ⟨#[]⟩, .string ⟨#[]⟩, .string ⟨#[]⟩, .string ⟨#[]⟩, .string ⟨#[]⟩, .string ⟨#[]⟩] := rfl
theorem arrS_get (S : List ByteArray) (a i : Nat) (hi : i < 12) : (arrS S a)[i]? = some (if i < a then Value.string (S.getD i zS) else .string ⟨#[]⟩) := by
  unfold arrS
  rw [List.getElem?_toArray, List.getElem?_map, List.getElem?_range hi]
  rfl
theorem arrS_set (S : List ByteArray) (a : Nat) (ha : a < 12) : (arrS S a).setIfInBounds a (.string (S.getD a zS)) = arrS S (a + 1) := by
  unfold arrS
  rw [List.setIfInBounds_toArray]
  congr 1
  apply List.ext_getElem?
  intro i
  rw [List.getElem?_set]
  by_cases hi : i < 12
  · rw [List.getElem?_map, List.getElem?_map, List.getElem?_range hi]
    by_cases hai : a = i
    · subst hai
      simp [ha]
    · rw [if_neg hai]
      have : (i < a) = (i < a + 1) := by rw [eq_iff_iff]; omega
      simp only [Option.map_some, this]
  · rw [List.getElem?_eq_none (by simp; omega), List.getElem?_eq_none (by simp; omega)]
    by_cases hai : a = i
    · omega
    · rw [if_neg hai]
end Sw
