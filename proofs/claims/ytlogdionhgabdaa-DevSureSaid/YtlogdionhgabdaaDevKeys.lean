/- A map's numbers, in order: maps.Keys and slices.Sorted. -/
import Derived.Test.YtlogdionhgabdaaDevAt
import Derived.Test.YtlogdionhgabdaaShelf2
set_option linter.unusedVariables false
set_option linter.unusedSimpArgs false
namespace Sw
open Go Go.RowKit
open Go.Maps (Keyed int_keyed keyOf_int_mk)
open Go.WideElems (rd rg rd_key rg_of rd_val)
theorem rising_ext : ∀ {l m : List Int}, l.Pairwise (· < ·) → m.Pairwise (· < ·) → (∀ x, x ∈ l ↔ x ∈ m) → l = m
  | [], [], _, _, _ => rfl
  | [], y :: m, _, _, h => absurd ((h y).2 (by simp)) (by simp)
  | x :: l, [], _, _, h => absurd ((h x).1 (by simp)) (by simp)
  | x :: l, y :: m, hl, hm, h => by
    obtain ⟨h1, h2⟩ := List.pairwise_cons.1 hl
    obtain ⟨k1, k2⟩ := List.pairwise_cons.1 hm
    have hxy : x = y := by
      rcases List.mem_cons.1 ((h x).1 (by simp)) with e | e
      · exact e
      · rcases List.mem_cons.1 ((h y).2 (by simp)) with e' | e'
        · exact e'.symm
        · have := k1 x e; have := h1 y e'; omega
    subst hxy
    rw [rising_ext h2 k2 (fun z => ?_)]
    constructor
    · intro hz
      rcases List.mem_cons.1 ((h z).1 (List.mem_cons_of_mem _ hz)) with e | e
      · have := h1 z hz; omega
      · exact e
    · intro hz
      rcases List.mem_cons.1 ((h z).2 (List.mem_cons_of_mem _ hz)) with e | e
      · have := k1 z hz; omega
      · exact e
theorem range_rising : ∀ n : Nat, ((List.range n).map Int.ofNat).Pairwise (· < ·)
  | 0 => by simp
  | n + 1 => by
    rw [List.range_succ, List.map_append, List.pairwise_append]
    refine ⟨range_rising n, by simp, fun a ha b hb => ?_⟩
    obtain ⟨i, hi, rfl⟩ := List.mem_map.1 ha
    simp at hb
    have := List.mem_range.1 hi
    subst hb
    show (i : Int) < n
    omega
theorem keysD_rising (n : Nat) (wet : List (Int × ByteArray)) : ((keysD n wet).map Int.ofNat).Pairwise (· < ·) := by
  unfold keysD
  exact (range_rising n).sublist (List.Sublist.map _ List.filter_sublist)
theorem keysD_mem (n : Nat) (wet : List (Int × ByteArray)) (i : Int) : i ∈ (keysD n wet).map Int.ofNat ↔ 0 ≤ i ∧ i < n ∧ wetAt wet i ≠ [] := by
  unfold keysD
  rw [List.mem_map]
  constructor
  · rintro ⟨j, hj, rfl⟩
    obtain ⟨h1, h2⟩ := List.mem_filter.1 hj
    have := List.mem_range.1 h1
    refine ⟨Int.natCast_nonneg j, by show (j : Int) < n; omega, ?_⟩
    intro h0
    simp at h2
    exact h2 h0
  · rintro ⟨h0, h1, h2⟩
    refine ⟨i.toNat, List.mem_filter.2 ⟨List.mem_range.2 (by omega), ?_⟩, by show ((i.toNat : Nat) : Int) = i; omega⟩
    rw [show ((i.toNat : Nat) : Int) = i by omega]
    simpa using h2
section
variable {P : Program} {k : TypeId} {w w' : World} {b n : Nat} {f : Int → Option Value}
/-- the numbers of a map, as the datum has them -/
theorem MapI.keys {D : DataW Value} (hown : w.ownsMap P k asIs b n D) (h2 : ∀ i, I64 i → ∀ z, D.atKey (.int .i64 i) z = lk f i z) (hk : P.underlying k = some (.int .i64)) :
    (intKeys D).Pairwise (· ≠ ·) ∧ (∀ i, i ∈ intKeys D ↔ I64 i ∧ (f i).isSome = true) ∧ (intKeys D).length = Maps.size D := by
  have K := int_keyed (P := P) (k := k) hk
  obtain ⟨es0, rfl, hp, _⟩ := hown.entries K
  obtain ⟨es, clock, h0, F, hs, hD⟩ := id hown
  have hD' : es0 = (es.toList.map (rg P k asIs)).foldr DataW.insert [] := by injection hD
  have hall : ∀ p ∈ es0, ∃ x : Int, p.1 = .int .i64 x ∧ I64 x := by
    intro p hpm
    have hpm' := hpm
    rw [hD'] at hpm'
    obtain ⟨x, hx, rfl⟩ := List.mem_map.1 (mem_sorted.1 hpm')
    obtain ⟨y, hy⟩ := F.reads x hx
    have hky := rd_key hy
    obtain ⟨i, _, he, hw⟩ := Maps.keyOf_int_inv hk hky
    exact ⟨i, by rw [rg_of hy]; exact he, hw⟩
  have hget : ∀ x : Int, I64 x → ((f x).isSome = true ↔ Maps.has (DataW.map es0) (.int .i64 x) = true) := by
    intro x hx
    have h3 := h2 x hx
    unfold lk at h3
    cases hf : f x with
    | none => rw [hf] at h3; rw [Maps.has_false_of_atKey h3]; simp
    | some u => rw [hf] at h3; rw [Maps.has_true_of_atKey h3]; simp
  refine ⟨?_, fun i => ?_, by simp [intKeys, Maps.size]⟩
  · show (es0.map fun p : Lit × DataW Value => Go.intOf p.1).Pairwise (· ≠ ·)
    rw [List.pairwise_map]
    refine List.Pairwise.imp_of_mem ?_ hp
    intro p q hpm hqm hne he
    obtain ⟨x, hx, _⟩ := hall p hpm
    obtain ⟨y, hy, _⟩ := hall q hqm
    rw [hx, hy] at he
    have : x = y := he
    subst this
    exact hne (hx.trans hy.symm)
  · show i ∈ (es0.map fun p : Lit × DataW Value => Go.intOf p.1) ↔ _
    rw [List.mem_map]
    constructor
    · rintro ⟨p, hpm, rfl⟩
      obtain ⟨x, hx, hI⟩ := hall p hpm
      rw [hx]
      refine ⟨hI, (hget x hI).2 (List.any_eq_true.2 ⟨p, hpm, ?_⟩)⟩
      rw [hx]
      exact WideAt.sameKey_self trivial
    · rintro ⟨hI, hs⟩
      obtain ⟨p, hpm, hpk⟩ := List.any_eq_true.1 ((hget i hI).1 hs)
      refine ⟨p, hpm, ?_⟩
      rw [WideAt.sameKey_eq hpk]
      rfl
end
end Sw
namespace Go.Proofs.Ytlogdionhgabdaa
open Go Go.RowKit Go.Shelf
open Sw
theorem mapsKeys_any (b : Option Nat) (w : World) : Calls Try.prog 30 #[.map b] w fun e w' => e = .returned (.func (.func 41) #[] #[.pointer (some ⟨w.heap.size, 0, none⟩)]) ∧ w' = w.alloc (.cells #[.map b] 51) :=
  callsIn_wide.1 (AnyZI.keys_in Try.keysA Fence.wide 5 trivial rfl b w)
theorem sortsA (m : Nat) : AnyZI.SortsIn Try.prog Try.sortedA_ren Fence.wide m :=
  ⟨fun blk off cap ss W hH hblk hsz => callsIn_wide.2 (AnyM.slices_Sort_int Try.sortA blk off cap ss W hH hblk hsz),
   fun p cap W => callsIn_wide.2 (AnyM.slices_Sort_int_none Try.sortA p cap W)⟩
theorem slicesSorted_any (w : World) (b : Nat) (f : Int → Option Value) (h : MapI w Try.prog 3 b 8192 f) :
    Calls Try.prog 29 #[.func (.func 41) #[] #[.pointer (some ⟨w.heap.size, 0, none⟩)]] (w.alloc (.cells #[.map (some b)] 51)) fun e w' => ∃ (v : Value) (ss : List Int), e = .returned v ∧ ss.Pairwise (· < ·) ∧ (∀ i, i ∈ ss ↔ I64 i ∧ (f i).isSome = true) ∧ w'.ownsRow (w.heap.size + 1) 3 1 v ss.length (ss.map (Value.int .i64)) ∧ Below (w.heap.size + 1) (w.alloc (.cells #[.map (some b)] 51)) w' := by
  obtain ⟨D0, hown, h2⟩ := h
  have hbl := hown.lt
  obtain ⟨hk1, hk2, hk3⟩ := MapI.keys hown h2 Try.underlying3
  have hsz := hown.size_le
  have hseq : SeqGives Fence.wide 2 Try.prog 41 #[.pointer (some ⟨w.heap.size, 0, none⟩)] encZ (fun ss => ss.Perm (intKeys D0)) (Maps.size D0) (w.alloc (.cells #[.map (some b)] 51)) :=
    AnyZI.keys_gives (ρ := Try.keysA_ren) { Try.keysA with } Fence.wide _ trivial rfl (by omega) w.heap.size b 8192 D0 _ (by simp) (by simp) (by
      obtain ⟨es, clock, hb, Ft, hs, hD⟩ := hown
      exact ⟨es, clock, (Below.heap_alloc _ _ b hbl).trans hb, Ft, hs, hD⟩)
  have cS := AnyZI.sorted_in Try.sortedA Fence.wide 5 trivial trivial trivial trivial rfl (by omega) (sortsA _) (enters_of Try.func40 (by kernel_rfl) rfl) 41 #[.pointer (some ⟨w.heap.size, 0, none⟩)] trivial (enters_of Try.func41 (by kernel_rfl) rfl) _ (Maps.size D0) (by unfold maxLen; omega) (by omega) _ hseq
  refine (callsIn_wide.1 cS).mono ?_
  rintro e w' ⟨v, ss, rfl, hS, hrow, _, hb⟩
  have hperm : (ss.mergeSort (fun x y => decide (x ≤ y))).Perm (intKeys D0) := (List.mergeSort_perm _ _).trans hS
  have hsort : (ss.mergeSort (fun x y => decide (x ≤ y))).Pairwise (fun x y => decide (x ≤ y) = true) := List.pairwise_mergeSort (fun a b c => by simp; omega) (fun a b => by simp; omega) _
  refine ⟨v, ss.mergeSort (fun x y => decide (x ≤ y)), rfl, ?_, fun i => ?_, ?_, ?_⟩
  · have hne := (hperm.pairwise_iff (fun {_ _} h => Ne.symm h)).2 hk1
    exact (hsort.and hne).imp (fun h => by obtain ⟨h1, h2⟩ := h; simp at h1; omega)
  · rw [hperm.mem_iff]
    exact hk2 i
  · have := hrow
    rw [List.length_mergeSort]
    rw [World.size_alloc] at this
    exact this
  · simpa using hb
end Go.Proofs.Ytlogdionhgabdaa
