/- Several texts, joined for the limit of sixty files; each one opens with its own comment. -/
import Derived.Test.YtlogdionhgabdaaDoorJoin46
import Derived.Lib.LastIndexByte
import Derived.Lib.EndianMore
/- Plain laws of name.Parent, Base, Ups. -/
set_option linter.unusedVariables false
set_option linter.unusedSimpArgs false
namespace Sw
open Go Go.RowKit
open Go.Proofs.YtlogdionhgabdaaDoor (partsS)
theorem spL_last : ∀ (a r : List UInt8), (47 : UInt8) ∉ r → spL (a ++ 47 :: r) = spL a ++ [r]
  | [], r, h => by rw [List.nil_append, spL_slash, spL_none r h]; rfl
  | b :: a, r, h => by
    have ih := spL_last a r h
    rw [List.cons_append, spL, ih, spL]
    split
    · rfl
    · cases hs : spL a with
      | nil => exact absurd hs (spL_ne a)
      | cons x t => rfl
def parentS (s : ByteArray) : ByteArray := mkB (jnL (datL (partsS s).dropLast))
def baseS (s : ByteArray) : ByteArray := (partsS s).getLastD ⟨#[]⟩
/-- the ups of a path, the shortest first -/
def upsS (s : ByteArray) : List ByteArray := (List.range ((partsS s).length - 1)).map fun k => mkB (jnL (datL ((partsS s).take (k + 1))))
theorem partsS_right {s : ByteArray} (h : rightL s.data.toList = true) : partsS s = spS s := by
  unfold partsS
  rw [if_pos h]
theorem partsS_not {s : ByteArray} (h : rightL s.data.toList = false) : partsS s = [] := by
  unfold partsS
  rw [if_neg (by rw [h]; simp)]
theorem parent_not {s : ByteArray} (h : rightL s.data.toList = false) : parentS s = ⟨#[]⟩ ∧ baseS s = ⟨#[]⟩ := by
  unfold parentS baseS
  rw [partsS_not h]
  exact ⟨rfl, rfl⟩
/-- the last slash of a text -/
theorem last_hit {s : ByteArray} {i : Nat} (hi : i < s.size) (h1 : ((s.data[i]!).toNat : Int) = 47) (h2 : ∀ j, i < j → j < s.size → ((s.data[j]!).toNat : Int) ≠ 47) : spS s = spS (s.extract 0 i) ++ [s.extract (i + 1) s.size] := by
  have hl : s.data.toList.length = s.size := by simp
  have hget : ∀ j (h : j < s.size), s.data[j]! = s.data.toList[j]'(by omega) := fun j h => by
    rw [getElem!_pos s.data j h]
    simp
  have hno : (47 : UInt8) ∉ s.data.toList.drop (i + 1) := by
    intro hm
    obtain ⟨k, hk, hke⟩ := List.getElem_of_mem hm
    rw [List.length_drop] at hk
    rw [List.getElem_drop] at hke
    refine h2 (i + 1 + k) (by omega) (by omega) ?_
    rw [hget _ (by omega), hke]
    rfl
  have he : s.data.toList[i]'(by omega) = 47 := by
    rw [hget i hi] at h1
    have h47 : (s.data.toList[i]'(by omega)).toNat = 47 := by omega
    exact UInt8.toNat_inj.1 (h47.trans rfl)
  unfold spS
  have hd : s.data.toList = s.data.toList.take i ++ 47 :: s.data.toList.drop (i + 1) := by
    conv => lhs; rw [← List.take_append_drop i s.data.toList]
    rw [List.drop_eq_getElem_cons (by omega), he]
  conv => lhs; rw [hd]
  rw [spL_last _ _ hno, List.map_append, List.map_singleton, ext_take]
  congr 1
  rw [← ext_drop, mkB_data]
theorem last_miss {s : ByteArray} (h : ∀ j, j < s.size → ((s.data[j]!).toNat : Int) ≠ 47) : spS s = [s] := by
  have hl : s.data.toList.length = s.size := by simp
  have hno : (47 : UInt8) ∉ s.data.toList := by
    intro hm
    obtain ⟨k, hk, hke⟩ := List.getElem_of_mem hm
    refine h k (by omega) ?_
    rw [getElem!_pos s.data k (by show k < s.size; omega)]
    have : s.data[k]'(by show k < s.size; omega) = s.data.toList[k]'hk := by simp
    rw [this, hke]
    rfl
  unfold spS
  rw [spL_none _ hno, List.map_singleton, mkB_data]
theorem rightL_len {p : List UInt8} (h : rightL p = true) : p.length ≤ 200 ∧ (spL p).length ≤ 12 ∧ (spL p).headD [] ≠ resL := by
  unfold rightL at h
  simp only [Bool.and_eq_true, decide_eq_true_eq] at h
  exact ⟨h.1.1.1, h.1.1.2, h.1.2⟩
/-- the first parts of a path are a path -/
theorem right_take {s : ByteArray} (h : rightL s.data.toList = true) (k : Nat) (hk : 1 ≤ k) : rightL (jnL (datL ((spS s).take k))) = true ∧ spS (mkB (jnL (datL ((spS s).take k)))) = (spS s).take k := by
  have hp := rightL_parts h
  obtain ⟨h1, h2, h3⟩ := rightL_len h
  have hd : datL ((spS s).take k) = (spL s.data.toList).take k := by
    unfold datL
    rw [List.map_take]
    congr 1
    exact spS_data s
  have hne : (spL s.data.toList).take k ≠ [] := by
    intro e
    have := congrArg List.length e
    rw [List.length_take, List.length_nil] at this
    have hpos := List.length_pos_iff.2 (spL_ne s.data.toList)
    omega
  have hsp : spL (jnL ((spL s.data.toList).take k)) = (spL s.data.toList).take k := spL_jnL _ hne (fun x hx => spL_no _ x (List.mem_of_mem_take hx))
  rw [hd]
  constructor
  · unfold rightL
    rw [hsp]
    have hl : (jnL ((spL s.data.toList).take k)).length ≤ 200 := by
      have := jnL_take_le (spL s.data.toList) k
      rw [jnL_spL] at this
      omega
    have hh : ((spL s.data.toList).take k).headD [] = (spL s.data.toList).headD [] := by
      obtain ⟨k', rfl⟩ : ∃ k', k = k' + 1 := ⟨k - 1, by omega⟩
      cases spL s.data.toList <;> rfl
    rw [decide_eq_true hl, decide_eq_true (show ((spL s.data.toList).take k).length ≤ 12 by rw [List.length_take]; omega), hh, decide_eq_true h3]
    simp only [Bool.true_and, List.all_eq_true]
    exact fun x hx => hp x (List.mem_of_mem_take hx)
  · unfold spS
    rw [data_mkB, hsp, ← List.map_take]
/-- where a walk up a path stands -/
def pAt (U : List ByteArray) (k : Nat) : ByteArray := if h : 0 < k ∧ k ≤ U.length then U[k - 1]'(by omega) else ⟨#[]⟩
theorem upsS_len (s : ByteArray) : (upsS s).length = (partsS s).length - 1 := by
  unfold upsS
  rw [List.length_map, List.length_range]
theorem upsS_at (s : ByteArray) (k : Nat) (h : k < (upsS s).length) : (upsS s)[k] = mkB (jnL (datL ((partsS s).take (k + 1)))) := by
  have hl := upsS_len s
  have h2 : (upsS s)[k]? = some (mkB (jnL (datL ((partsS s).take (k + 1))))) := by
    unfold upsS
    rw [List.getElem?_map, List.getElem?_range (by omega)]
    rfl
  exact (List.getElem?_eq_some_iff.1 h2).2
theorem ups_pAt (s : ByteArray) (k : Nat) (h : k ≤ (upsS s).length) : pAt (upsS s) k = mkB (jnL (datL ((partsS s).take k))) := by
  unfold pAt
  by_cases h0 : 0 < k
  · rw [dif_pos ⟨h0, h⟩, upsS_at, show k - 1 + 1 = k by omega]
  · rw [dif_neg (by omega), show k = 0 by omega]
    rfl
theorem ups_start (s : ByteArray) : parentS s = pAt (upsS s) (upsS s).length := by
  rw [ups_pAt s _ (Nat.le_refl _), upsS_len]
  unfold parentS
  rw [List.dropLast_eq_take]
theorem ups_step (s : ByteArray) (k : Nat) (h : k < (upsS s).length) : parentS (upsS s)[k] = pAt (upsS s) k ∧ (upsS s)[k].size ≤ 200 ∧ rightL (upsS s)[k].data.toList = true := by
  have hlen := upsS_len s
  have hr : rightL s.data.toList = true := by
    cases hr : rightL s.data.toList with
    | true => rfl
    | false => rw [partsS_not hr, List.length_nil] at hlen; omega
  have hps := partsS_right hr
  obtain ⟨h1, h2⟩ := right_take hr (k + 1) (by omega)
  rw [ups_pAt s k (by omega), upsS_at, hps]
  rw [hps] at hlen
  have hq : partsS (mkB (jnL (datL ((spS s).take (k + 1))))) = (spS s).take (k + 1) := by
    rw [partsS_right (by rw [data_mkB]; exact h1), h2]
  refine ⟨?_, ?_, by rw [data_mkB]; exact h1⟩
  · unfold parentS
    rw [hq, List.dropLast_eq_take, List.take_take, List.length_take]
    congr 4
    omega
  · rw [mkB_size]
    exact (rightL_len h1).1
theorem pAt_succ (U : List ByteArray) (k : Nat) (h : k < U.length) : pAt U (k + 1) = U[k] := by
  unfold pAt
  rw [dif_pos ⟨by omega, by omega⟩]
  rfl
theorem right_pos {s : ByteArray} (h : rightL s.data.toList = true) : 0 < s.size := by
  by_cases h0 : s.size = 0
  · have : s.data.toList = [] := List.length_eq_zero_iff.1 (by simpa using h0)
    rw [this, rightL_nil] at h
    cases h
  · omega
end Sw
/- Contracts of name.Parts, Parent, Base, Ups, and of the reference's Ups. -/
set_option linter.unusedVariables false
set_option linter.unusedSimpArgs false
namespace Go.Proofs.YtlogdionhgabdaaDoor
open Go Go.RowKit
open Sw
/-- texts that can be read -/
def SlPost (l : List ByteArray) (w : World) (e : Ending) (w' : World) : Prop := ∃ v, e = .returned v ∧ SlV w' 1 bE v l ∧ Below w.heap.size w w'
theorem strPost_sl {l : List ByteArray} {w : World} {e : Ending} {w' : World} (h : StrPost l w e w') : SlPost l w e w' := by
  obtain ⟨v, h1, h2, h3⟩ := h
  exact ⟨v, h1, SlV.of_own h2 bE_len (by omega), h3⟩
theorem flat_bE (l : List ByteArray) : l.flatMap bE = l.map Value.string := by
  induction l with
  | nil => rfl
  | cons a l ih => rw [List.flatMap_cons, ih]; rfl
theorem last_47 (w : World) (s : ByteArray) (hs : s.size ≤ 1000000) :
    Calls Tryd.prog 23 #[.string s, .string ⟨#[47]⟩] w fun e w' => e = .returned (.int .i64 (Lib.lastIndexByte s 47)) ∧ w' = w :=
  Tryd.strings_LastIndex_one s ⟨#[47]⟩ rfl (by omega) w
set_option maxRecDepth 100000 in
set_option maxHeartbeats 1000000 in
theorem base_any (w : World) (s : ByteArray) (hs : s.size ≤ 100000) :
    Calls Tryd.prog 22 #[.string s] w fun e w' => e = .returned (.string (baseS s)) ∧ Below w.heap.size w w' := by
  have HR := Lib.hid (right_any w s (by omega))
  have HL := Lib.hid (fun W => last_47 W s (by omega))
  cases hr : rightL s.data.toList with
  | false =>
    rw [hr] at HR
    have HP := Lib.hid (parent_not hr).2
    clear hr HL
    go_enter Tryd.func22, Tryd.ntmps22
    go_wp2_with fail
    refine HR.out.mono ?_
    rintro e w2 ⟨rfl, hb2⟩
    go_wp2_with fail
    go_ret
    exact ⟨by rw [HP.out]; first | done | rfl, hb2⟩
  | true =>
    rw [hr] at HR
    rcases Lib.lastIndexByte_spec s 47 with ⟨hi, hno⟩ | ⟨i, hlt, hi, h1, h2⟩
    · have hp : baseS s = s := by
        unfold baseS
        rw [partsS_right hr, last_miss hno]
        rfl
      have hx : s.extract 0 s.size = s := by
        apply ByteArray.ext
        simp
      rw [hi] at HL
      have HP := Lib.hid (And.intro hp hx); clear hp hno hi hr hx
      go_enter Tryd.func22, Tryd.ntmps22
      go_wp2_with fail
      refine HR.out.mono ?_
      rintro e w2 ⟨rfl, hb2⟩
      go_wp2_with fail
      refine (HL.out _).mono ?_
      rintro e w3 ⟨rfl, rfl⟩
      go_wp2_with fail
      go_ret
      exact ⟨by rw [HP.out.1]; first | done | (rw [← HP.out.2]; rfl) | rfl, hb2⟩
    · have hp : baseS s = s.extract (i + 1) s.size := by
        unfold baseS
        rw [partsS_right hr, last_hit hlt h1 h2]
        simp
      rw [hi] at HL
      have HP := Lib.hid hp; clear hp h1 h2 hi hr
      have hiI : (i : Int) + 1 ≤ s.size := by omega
      go_enter Tryd.func22, Tryd.ntmps22
      go_wp2_with fail
      refine HR.out.mono ?_
      rintro e w2 ⟨rfl, hb2⟩
      go_wp2_with fail
      refine (HL.out _).mono ?_
      rintro e w3 ⟨rfl, rfl⟩
      go_wp2_with fail
      go_ret
      exact ⟨by rw [HP.out]; first | done | rfl, hb2⟩
end Go.Proofs.YtlogdionhgabdaaDoor
