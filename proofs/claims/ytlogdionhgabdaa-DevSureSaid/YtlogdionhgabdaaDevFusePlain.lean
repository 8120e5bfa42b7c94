/- What always holds of a device with a fuse and a limit: plain. -/
import Derived.Test.YtlogdionhgabdaaDevPlain
set_option linter.unusedVariables false
set_option linter.unusedSimpArgs false
namespace Sw
structure FuI (n k : Int) (done : Int) (d : Dv) : Prop where
  size : d.size = 12
  ok : d.Ok
  lim : d.limit = k
  ops : d.ops = done
  fuse : d.fuse = n - done
  le : done ≤ n
  off : d.off = true → done = n
  sure : ∀ i : Nat, k ≤ (i : Int) → i < 12 → d.sure.getD i zS = zS
  wet : ∀ i : Int, k ≤ i → wetAt d.wet i = []
theorem FuI.start (n k : Int) (hn0 : 0 ≤ n) (hn1 : n < 20) (hk0 : 0 ≤ k) (hk1 : k < 13) : FuI n k 0 { { newD 12 with limit := max k (-1) } with fuse := max n (-1) } := by
  have h := newD_ok 12
  refine ⟨rfl, ⟨h.len, h.size, h.wet, by show -1 ≤ max n (-1); omega, by show max n (-1) ≤ 9223372036854775807; omega, by show -1 ≤ max k (-1); omega, by show max k (-1) ≤ 9223372036854775807; omega, h.o0⟩, by show max k (-1) = k; omega, rfl, by show max n (-1) = n - 0; omega, hn0, fun h => (by cases h), fun i _ hi => ?_, fun i _ => rfl⟩
  show (List.replicate 12 zS).getD i zS = zS
  rw [List.getD_eq_getElem?_getD, List.getElem?_replicate, if_pos hi]
  rfl
theorem FuI.write {n k done : Int} {d : Dv} (h : FuI n k done d) (hk : 0 ≤ k) (i : Int) (s : ByteArray) :
    ((d.write i s).1 = 0 ∧ FuI n k (done + 1) (d.write i s).2 ∧ (d.write i s).2.off = false) ∨ ((d.write i s).1 ≠ 0 ∧ FuI n k done (d.write i s).2 ∧ ((d.write i s).1 = 10 ↔ (d.write i s).2.off = true)) := by
  have hok := h.ok.write i s
  unfold Dv.write at hok ⊢
  by_cases hoff : d.off = true
  · rw [if_pos hoff]
    exact .inr ⟨by simp, h, ⟨fun _ => hoff, fun _ => rfl⟩⟩
  · rw [if_neg hoff] at hok ⊢
    by_cases hbad : s.size ≠ 512 ∨ i < 0 ∨ (d.size : Int) ≤ i
    · rw [if_pos hbad]
      exact .inr ⟨by simp, h, ⟨fun h => absurd h (by simp), fun h => absurd h hoff⟩⟩
    · rw [if_neg hbad] at hok ⊢
      by_cases hlim : 0 ≤ d.limit ∧ d.limit ≤ i
      · rw [if_pos hlim]
        exact .inr ⟨by simp, h, ⟨fun h => absurd h (by simp), fun h => absurd h hoff⟩⟩
      · rw [if_neg hlim] at hok ⊢
        have hfu := h.fuse
        have hli := h.lim
        have hle := h.le
        by_cases hf : d.fuse = 0
        · rw [if_pos hf] at hok ⊢
          exact .inr ⟨by simp, ⟨h.size, hok, h.lim, h.ops, h.fuse, h.le, fun _ => by omega, h.sure, h.wet⟩, ⟨fun _ => rfl, fun _ => rfl⟩⟩
        · rw [if_neg hf] at hok ⊢
          have hoff' : d.off = false := by simpa using hoff
          have hops := h.ops
          refine .inl ⟨rfl, ⟨h.size, hok, h.lim, by show d.ops + 1 = done + 1; omega, by show max (d.fuse - 1) (-1) = n - (done + 1); omega, by omega, fun ho => ?_, h.sure, fun j hj => ?_⟩, hoff'⟩
          · have : d.off = true := ho
            rw [hoff'] at this
            cases this
          · show wetAt (d.wet ++ [(i, s)]) j = []
            rw [wetAt_snoc, if_neg (by omega)]
            exact h.wet j hj
theorem FuI.flush {n k done : Int} {d : Dv} (h : FuI n k done d) (hk : 0 ≤ k) :
    (d.flush.1 = 0 ∧ FuI n k (done + 1) d.flush.2 ∧ d.flush.2.off = false) ∨ (d.flush.1 ≠ 0 ∧ FuI n k done d.flush.2 ∧ (d.flush.1 = 10 ↔ d.flush.2.off = true)) := by
  have hok := h.ok.flush
  unfold Dv.flush at hok ⊢
  by_cases hoff : d.off = true
  · rw [if_pos hoff]
    exact .inr ⟨by simp, h, ⟨fun _ => hoff, fun _ => rfl⟩⟩
  · rw [if_neg hoff] at hok ⊢
    have hfu := h.fuse
    have hle := h.le
    by_cases hf : d.fuse = 0
    · rw [if_pos hf] at hok ⊢
      exact .inr ⟨by simp, ⟨h.size, hok, h.lim, h.ops, h.fuse, h.le, fun _ => by omega, h.sure, h.wet⟩, ⟨fun _ => rfl, fun _ => rfl⟩⟩
    · rw [if_neg hf] at hok ⊢
      have hoff' : d.off = false := by simpa using hoff
      have hops := h.ops
      refine .inl ⟨rfl, ⟨h.size, hok, h.lim, by show d.ops + 1 = done + 1; omega, by show max (d.fuse - 1) (-1) = n - (done + 1); omega, by omega, fun ho => ?_, fun i hi hi2 => ?_, fun j hj => rfl⟩, hoff'⟩
      · have : d.off = true := ho
        rw [hoff'] at this
        cases this
      · show (flushL d.sure d.wet).getD i zS = zS
        rw [flushL_get d.wet.length d.wet d.sure rfl (fun e he => (h.ok.wet e he).1) i (by rw [h.ok.len, h.size]; exact hi2), h.wet i hi]
        exact h.sure i hi hi2
theorem FuI.read {n k done : Int} {d : Dv} (h : FuI n k done d) (i : Int) (h0 : 0 ≤ i) (hk : k ≤ i) (hi : i < 12) : d.read i = secS 0 := by
  have hs := h.size
  unfold Dv.read
  rw [if_neg (by omega), h.wet i hk]
  exact h.sure i.toNat (by omega) (by omega)
theorem Dv.write_len (d : Dv) (i : Int) (s : ByteArray) : (d.write i s).2.wet.length ≤ d.wet.length + 1 := by
  unfold Dv.write
  repeat' split
  all_goals first | exact Nat.le_succ _ | (show (d.wet ++ [(i, s)]).length ≤ _; rw [List.length_append]; exact Nat.le_refl _)
theorem Dv.flush_len (d : Dv) : (d.flush).2.wet.length ≤ d.wet.length := by
  unfold Dv.flush
  repeat' split
  all_goals first | exact Nat.le_refl _ | exact Nat.zero_le _
theorem Dv.write_ops (d : Dv) (i : Int) (s : ByteArray) : (d.write i s).2.ops ≤ d.ops + 1 := by
  unfold Dv.write
  repeat' split
  all_goals first | (show d.ops ≤ d.ops + 1; omega) | (show d.ops + 1 ≤ d.ops + 1; omega)
theorem Dv.flush_ops (d : Dv) : (d.flush).2.ops ≤ d.ops + 1 := by
  unfold Dv.flush
  repeat' split
  all_goals first | (show d.ops ≤ d.ops + 1; omega) | (show d.ops + 1 ≤ d.ops + 1; omega)
end Sw
