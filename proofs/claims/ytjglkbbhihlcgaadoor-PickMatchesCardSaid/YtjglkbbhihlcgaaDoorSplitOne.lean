/- The contract of strings.Split at a slash; name.Parts. -/
import Derived.Test.YtjglkbbhihlcgaaDoorNameRefD

set_option linter.unusedVariables false
set_option linter.unusedSimpArgs false
namespace Sw
open Go Go.RowKit
theorem spL_count : ∀ l : List UInt8, (spL l).length = l.count 47 + 1
  | [] => rfl
  | b :: l => by
    have ih := spL_count l
    rw [spL]
    split
    · rename_i h
      rw [h, List.count_cons_self, List.length_cons, ih]
    · rename_i h
      rw [List.count_cons_of_ne h, ← ih]
      have h2 : (spL l).tail.length + 1 = (spL l).length := congrArg List.length (spL_head l)
      exact h2
theorem splitB_spS : ∀ (k : Nat) (s : ByteArray), (spS s).length ≤ k + 1 → Lib.splitB ⟨#[47]⟩ 0 k s = spS s
  | k, s, h => by
    have hix : Lib.indexB s ⟨#[47]⟩ = Lib.indexByte s.data.toList 47 := Lib.index_one _ _
    have hge := Lib.indexByte_ge s.data.toList 47
    obtain ⟨j, hj⟩ : ∃ j, Lib.indexByte s.data.toList 47 = j := ⟨_, rfl⟩
    by_cases h0 : j < 0
    · have hm : Lib.indexByte s.data.toList 47 = -1 := by omega
      rw [Lib.splitB_miss _ _ _ _ (by rw [hix, hm]), spS_miss hm]
    · obtain ⟨i, rfl⟩ := Int.eq_ofNat_of_zero_le (show 0 ≤ j by omega)
      obtain ⟨hiX, hhit⟩ := spS_hit hj
      rw [hhit, List.length_cons] at h
      have hp : 0 < (spS (s.extract (i + 1) s.size)).length := List.length_pos_iff.2 (spS_ne _)
      cases k with
      | zero => omega
      | succ k =>
        rw [Lib.splitB_hit _ _ _ _ i (by rw [hix, hj]), splitB_spS k _ (by
          have e : (⟨#[47]⟩ : ByteArray).size = 1 := rfl
          rw [e]; omega), hhit]
        rfl
theorem spS_count (s : ByteArray) : Lib.countB s ⟨#[47]⟩ + 1 = (spS s).length := by
  have h : Lib.countB s ⟨#[47]⟩ = s.data.toList.count 47 := Lib.count_one _ _
  unfold spS
  rw [h, List.length_map, spL_count]
end Sw
namespace Go.Proofs.YtjglkbbhihlcgaaDoor
open Go Go.RowKit
open Sw
set_option maxRecDepth 100000 in
set_option maxHeartbeats 1000000 in
theorem split_one (w : World) (s : ByteArray) (hs : s.size ≤ 100000) :
    Calls Tryd.prog 45 #[.string s, .string ⟨#[47]⟩] w fun e w' => e = .returned (.slice (some ⟨w.heap.size, 0, none⟩) (spS s).length (spS s).length) ∧ w' = w.alloc (.cells ((spS s).map Value.string).toArray 9) := by
  have hc := spS_count s
  have hsp := splitB_spS (Lib.countB s ⟨#[47]⟩) s (by omega)
  have hle := spS_len s
  have c := Any.strings_genSplit_core { Tryd.lays146 with } (by kernel_rfl) s ⟨#[47]⟩ 0 (-1) ((spS s).length) w (by omega) (by decide) (Nat.zero_le _)
    (fun x cc hx => (Tryd.strings_Index_one x 47 _).mono fun e w' h => ⟨by rw [h.1]; exact congrArg (fun z => Ending.returned (Value.int .i64 z)) (Lib.index_one _ _).symm, h.2⟩)
    ((Tryd.strings_Count_one s 47 w).mono fun e w' h => ⟨by rw [h.1]; exact congrArg (fun z : Nat => Ending.returned (Value.int .i64 (z : Int))) (Lib.count_one _ _).symm, h.2⟩)
    (by decide) (by decide) (by rw [if_pos (by decide)]; omega)
  rw [show (spS s).length - 1 = Lib.countB s ⟨#[47]⟩ by omega, hsp, Lib.cellsOf_full] at c
  have HC := Lib.hid c; clear c hc hsp
  go_enter Tryd.func45, Tryd.ntmps45
  go_wp2_with fail
  refine HC.out.mono ?_
  rintro e w' ⟨rfl, rfl⟩
  go_wp2_with fail
  go_ret
  exact ⟨rfl, rfl⟩
end Go.Proofs.YtjglkbbhihlcgaaDoor
