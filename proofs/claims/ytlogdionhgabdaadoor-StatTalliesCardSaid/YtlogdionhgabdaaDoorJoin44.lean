/- Several texts, joined for the limit of sixty files; each one opens with its own comment. -/
import Derived.Test.YtlogdionhgabdaaDoorJoin42
import Derived.Test.YtlogdionhgabdaaDoorJoin43
import Derived.Lib.Split
import Derived.Lib.SplitLaws
import Derived.Lib.Join
/- Contracts of the reference's Right, Parts and Join. -/
set_option linter.unusedVariables false
set_option linter.unusedSimpArgs false
namespace Sw
open Go Go.RowKit
theorem spS_data (s : ByteArray) : (spS s).map (fun b : ByteArray => b.data.toList) = spL s.data.toList := by
  unfold spS
  rw [List.map_map]
  conv => rhs; rw [← List.map_id (spL s.data.toList)]
  exact List.map_congr_left fun a _ => data_mkB a
theorem spS_zero (s : ByteArray) (h : 0 < (spS s).length) : (spS s)[0] = headS s := by
  have h2 : (spS s)[0]? = some (headS s) := by
    unfold spS headS
    rw [← spL_head s.data.toList]
    rfl
  exact (List.getElem?_eq_some_iff.1 h2).2
theorem spL_size : ∀ (l : List UInt8), ∀ x ∈ spL l, x.length ≤ l.length
  | [], x, h => by
    rw [spL, List.mem_singleton] at h
    rw [h]
    simp
  | b :: l, x, h => by
    rw [spL] at h
    rw [List.length_cons]
    split at h
    · rcases List.mem_cons.1 h with rfl | h
      · simp
      · have := spL_size l x h; omega
    · rcases List.mem_cons.1 h with rfl | h
      · have hm : (spL l).headD [] ∈ spL l := by
          cases he : spL l with
          | nil => exact absurd he (spL_ne l)
          | cons a t => exact List.mem_cons_self
        have := spL_size l _ hm
        rw [List.length_cons]
        omega
      · have hm : x ∈ spL l := by
          rw [← spL_head l]
          exact List.mem_cons_of_mem _ h
        have := spL_size l x hm
        omega
theorem spS_size (s : ByteArray) : ∀ x ∈ spS s, x.size ≤ s.size := by
  intro x hx
  unfold spS at hx
  obtain ⟨a, ha, rfl⟩ := List.mem_map.1 hx
  have := spL_size s.data.toList a ha
  rw [mkB_size]
  have h : s.data.toList.length = s.size := by simp
  omega
theorem rightL_many {s : ByteArray} (h : 12 < (spS s).length) : rightL s.data.toList = false := by
  unfold spS at h
  rw [List.length_map] at h
  unfold rightL
  rw [decide_eq_false (show ¬ (spL s.data.toList).length ≤ 12 by omega)]
  simp
theorem rightL_badAt {s : ByteArray} {i : Nat} (h : i < (spS s).length) (hb : partL (spS s)[i].data.toList = false) : rightL s.data.toList = false :=
  rightL_bad (pre := (spS s).take i) (x := (spS s)[i]) (r := (spS s).drop (i + 1)) (by
    rw [List.append_assoc]
    conv => lhs; rw [← List.take_append_drop i (spS s), List.drop_eq_getElem_cons h]
    rfl) (.inl hb)
theorem jnL_take_le : ∀ (l : List (List UInt8)) (i : Nat), (jnL (l.take i)).length ≤ (jnL l).length
  | [], i => by simp
  | x :: l, 0 => by simp [jnL]
  | [x], i + 1 => by simp
  | x :: y :: l, i + 1 => by
    have := jnL_take_le (y :: l) i
    rw [List.take_succ_cons]
    by_cases h : (y :: l).take i = []
    · rw [h, jnL, jnL_cons x _ (by simp)]
      simp
    · rw [jnL_cons x _ h, jnL_cons x (y :: l) (by simp)]
      simp only [List.length_append, List.length_cons]
      omega
def dat (b : ByteArray) : List UInt8 := b.data.toList
end Sw
namespace Go.Proofs.YtlogdionhgabdaaDoor
open Go Go.RowKit
open Sw
end Go.Proofs.YtlogdionhgabdaaDoor
/- Contracts of the reference's Join and Parts. -/
set_option linter.unusedVariables false
set_option linter.unusedSimpArgs false
namespace Sw
open Go Go.RowKit
/-- the texts' bytes -/
def datL (l : List ByteArray) : List (List UInt8) := l.map dat
theorem jn_zero (l : List ByteArray) (h : 0 < l.length) : (⟨#[]⟩ : ByteArray) ++ l[0] = mkB (jnL (datL (l.take 1))) := by
  cases l with
  | nil => exact absurd h (by simp)
  | cons x l =>
    have e : jnL (datL ((x :: l).take 1)) = x.data.toList := rfl
    rw [e, mkB_data]
    apply ByteArray.ext
    simp
theorem jn_step (l : List ByteArray) (i : Nat) (h0 : 0 < i) (h : i < l.length) : (mkB (jnL (datL (l.take i))) ++ (⟨#[47]⟩ : ByteArray)) ++ l[i] = mkB (jnL (datL (l.take (i + 1)))) := by
  have e : jnL (datL (l.take (i + 1))) = jnL (datL (l.take i)) ++ 47 :: l[i].data.toList := by
    unfold datL
    rw [List.take_succ_eq_append_getElem h, List.map_append, List.map_singleton, jnL_snoc _ _ (by
      intro e
      have := congrArg List.length e
      rw [List.length_map, List.length_take, List.length_nil] at this
      omega)]
    rfl
  rw [e]
  apply ByteArray.ext
  simp [mkB, ByteArray.data_append]
theorem own_base {w : World} {base base' : Nat} {e : TypeId} {size n : Nat} {v : Value} {xs : List Value} (h : w.ownsRow base e size v n xs) (hb : base' ≤ base) : w.ownsRow base' e size v n xs := by
  refine ⟨h.1, ?_⟩
  rcases h.2 with h2 | ⟨g, cap, cur, rfl, h3, h4⟩
  · exact .inl h2
  · exact .inr ⟨g, cap, cur, rfl, Nat.le_trans hb h3, h4⟩
end Sw
namespace Go.Proofs.YtlogdionhgabdaaDoor
open Go Go.RowKit
open Sw
/-- a path's parts, as texts -/
def partsS (s : ByteArray) : List ByteArray := if rightL s.data.toList = true then spS s else []
end Go.Proofs.YtlogdionhgabdaaDoor
/- The contract of strings.Split at a slash; name.Parts. -/
set_option linter.unusedVariables false
set_option linter.unusedSimpArgs false
namespace Sw
open Go Go.RowKit
theorem spL_count : ∀ l : List UInt8, (spL l).length = l.count 47 + 1
  | [] => rfl
  | b :: l => by
    have ih := spL_count l
    rw [spL]
    split
    · rename_i h
      rw [h, List.count_cons_self, List.length_cons, ih]
    · rename_i h
      rw [List.count_cons_of_ne h, ← ih]
      have h2 : (spL l).tail.length + 1 = (spL l).length := congrArg List.length (spL_head l)
      exact h2
theorem splitB_spS : ∀ (k : Nat) (s : ByteArray), (spS s).length ≤ k + 1 → Lib.splitB ⟨#[47]⟩ 0 k s = spS s
  | k, s, h => by
    have hix : Lib.indexB s ⟨#[47]⟩ = Lib.indexByte s.data.toList 47 := Lib.index_one _ _
    have hge := Lib.indexByte_ge s.data.toList 47
    obtain ⟨j, hj⟩ : ∃ j, Lib.indexByte s.data.toList 47 = j := ⟨_, rfl⟩
    by_cases h0 : j < 0
    · have hm : Lib.indexByte s.data.toList 47 = -1 := by omega
      rw [Lib.splitB_miss _ _ _ _ (by rw [hix, hm]), spS_miss hm]
    · obtain ⟨i, rfl⟩ := Int.eq_ofNat_of_zero_le (show 0 ≤ j by omega)
      obtain ⟨hiX, hhit⟩ := spS_hit hj
      rw [hhit, List.length_cons] at h
      have hp : 0 < (spS (s.extract (i + 1) s.size)).length := List.length_pos_iff.2 (spS_ne _)
      cases k with
      | zero => omega
      | succ k =>
        rw [Lib.splitB_hit _ _ _ _ i (by rw [hix, hj]), splitB_spS k _ (by
          have e : (⟨#[47]⟩ : ByteArray).size = 1 := rfl
          rw [e]; omega), hhit]
        rfl
theorem spS_count (s : ByteArray) : Lib.countB s ⟨#[47]⟩ + 1 = (spS s).length := by
  have h : Lib.countB s ⟨#[47]⟩ = s.data.toList.count 47 := Lib.count_one _ _
  unfold spS
  rw [h, List.length_map, spL_count]
end Sw
namespace Go.Proofs.YtlogdionhgabdaaDoor
open Go Go.RowKit
open Sw
end Go.Proofs.YtlogdionhgabdaaDoor
/- Contracts of name.Join and what it calls. -/
set_option linter.unusedVariables false
set_option linter.unusedSimpArgs false
namespace Sw
open Go Go.RowKit
/-- has a text a slash? -/
def hasSl (x : ByteArray) : Bool := decide ((47 : UInt8) ∈ x.data.toList)
theorem hasSl_ix (x : ByteArray) : decide (0 ≤ Lib.indexByte x.data.toList 47) = hasSl x := by
  unfold hasSl
  rw [decide_eq_decide]
  have hge := Lib.indexByte_ge x.data.toList 47
  obtain ⟨j, hj⟩ : ∃ j, Lib.indexByte x.data.toList 47 = j := ⟨_, rfl⟩
  constructor
  · intro h
    obtain ⟨i, hi⟩ := Int.eq_ofNat_of_zero_le h
    obtain ⟨h1, h2, h3⟩ := slash_split hi
    rw [h2]
    simp
  · intro h
    by_cases h0 : 0 ≤ Lib.indexByte x.data.toList 47
    · exact h0
    · exact absurd h (slash_none (by omega))
theorem join_jnL : ∀ l : List (List UInt8), Lib.join l [47] = jnL l
  | [] => rfl
  | [x] => by rw [jnL]; unfold Lib.join; simp [List.intercalate, List.intersperse]
  | x :: y :: l => by
    have ih := join_jnL (y :: l)
    rw [jnL_cons x _ (by simp), ← ih]
    unfold Lib.join
    simp [List.intercalate, List.intersperse]
/-- what Join answers -/
def joinS (l : List ByteArray) : ByteArray := if (l.any hasSl || !rightL (jnL (datL l))) = true then ⟨#[]⟩ else mkB (jnL (datL l))
def joinB (l : List ByteArray) : Bool := !(l.any hasSl || !rightL (jnL (datL l)))
end Sw
namespace Go.Proofs.YtlogdionhgabdaaDoor
open Go Go.RowKit
open Sw
end Go.Proofs.YtlogdionhgabdaaDoor
