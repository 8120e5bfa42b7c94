/- slices.Delete of one element out of a row of sorted.entry[int,string] that the call owns. -/
import Derived.Test.YtpnkgldpmalklaaSlInsertIS
set_option linter.unusedVariables false
set_option linter.unusedSimpArgs false
namespace Go.Proofs.Ytpnkgldpmalklaa
open Go Go.RowKit
open Sw
/-- behind the call: a row with one element less -/
def DelPostIS (base n : Nat) (xs : List Value) (row : Option Nat) (w : World) (e : Ending) (w' : World) : Prop :=
  ∃ v, e = .returned v ∧ w'.ownsRow base 100 2 v n xs ∧ w.grownBy w' row ∧ v.ownBlock = row
set_option maxRecDepth 100000 in
set_option maxHeartbeats 4000000 in
theorem slDeleteIS_any (w : World) (base : Nat) (v : Value) (n i : Nat) (xs : List Value) (hown : w.ownsRow base 100 2 v n xs) (h1c : ∀ u ∈ xs, u.oneCell' = true) (hi : i < n) (hn : n ≤ 1000000) :
    Calls Try.prog 55 #[v, .int .i64 i, .int .i64 ((i : Int) + 1)] w (DelPostIS base (n - 1) (xs.take (i * 2) ++ xs.drop ((i + 1) * 2)) v.ownBlock w) := by
  obtain ⟨g, cap, cur, rfl, hbg, hg, hnc, hcm, hcs, htk⟩ := own_form hown (by omega)
  obtain ⟨i0, hi0, hz0, hzs, hzb⟩ := info_parts infoEIS
  have hxl : xs.length = n * 2 := hown.1
  have hc1 : cur.toList.length = cap * 2 := by rw [Array.length_toList]; exact hcs
  clear hown
  have hdl : (xs.drop ((i + 1) * 2)).length = (n - (i + 1)) * 2 := by rw [List.length_drop]; omega
  obtain ⟨r1, hr1⟩ : ∃ r1, (cur.toList.take (i * 2) ++ xs.drop ((i + 1) * 2) ++ cur.toList.drop (i * 2 + (xs.drop ((i + 1) * 2)).length)) = r1 := ⟨_, rfl⟩
  have hr1l : r1.length = cap * 2 := by
    rw [← hr1]
    simp only [List.length_append, List.length_take, List.length_drop, hc1, hxl]
    omega
  obtain ⟨W1, hW1⟩ : ∃ W1, w.drew.setRow g r1.toArray = W1 := ⟨_, rfl⟩
  have hap : ∀ ty a c', (i + 1 < n → a = ⟨g, (i + 1) * 2, none⟩) → (Builtin.append_ #[93, 93] ty #[.slice (some ⟨g, 0, none⟩) i cap, .slice (some a) (n - (i + 1)) c']).run Try.prog w.drew = .ok (.slice (some ⟨g, 0, none⟩) (n - 1) cap) W1 := fun ty a c' ha => by
    have := run_append_room (P := Try.prog) w.drew 93 ty 100 i0 Try.underlying93 hi0 g i cap cur hg.drew a (n - (i + 1)) c' (xs.drop ((i + 1) * 2)) (by rw [hdl, hzs]) (fun j u hj => by
      have hjl := (List.getElem?_eq_some_iff.1 hj).1
      rw [hdl] at hjl
      rw [ha (by omega)]
      refine hg.drew.at _ j u ?_
      rw [← htk, List.getElem?_drop, List.getElem?_take] at hj
      split at hj
      · rw [List.getElem?_drop]; exact hj
      · cases hj) (fun u hu => h1c u (List.mem_of_mem_drop hu)) (by omega) (by rw [hzs, hdl, hcs]; omega)
    rw [hzs, show i + (n - (i + 1)) = n - 1 by omega, hr1, hW1] at this
    exact this
  have hg1 : Blk W1 g 100 r1.toArray := by rw [← hW1]; exact hg.drew.setRow _
  have hgr1 : w.grownBy W1 (some g) := by rw [← hW1]; exact grown_of_drew (grown_setRow _ _ _)
  obtain ⟨r2, hcl, hr2s, hr2t⟩ := run_clear_rows (P := Try.prog) W1 93 100 (.agg #[.int .i64 0, .string ⟨#[]⟩]) 2 Try.underlying93 Try.zeroValue100 rfl (by decide) g ((n - 1) * 2) 1 (cap - (n - 1)) (by omega) r1.toArray 100 hg1 (by rw [List.size_toArray, hr1l]; omega)
  obtain ⟨W2, hW2⟩ : ∃ W2, W1.setRow g r2 = W2 := ⟨_, rfl⟩
  simp only [hW2] at hcl
  have hg2 : Blk W2 g 100 r2 := by rw [← hW2]; exact hg1.setRow _
  have hgr2 : w.grownBy W2 (some g) := by rw [← hW2]; exact grown_trans hgr1 (grown_setRow _ _ _)
  have hx2 : r2.toList.take ((n - 1) * 2) = xs.take (i * 2) ++ xs.drop ((i + 1) * 2) := by
    rw [hr2t, List.toList_toArray, ← hr1]
    rw [List.take_left' (by simp only [List.length_append, List.length_take, hc1, hdl]; omega)]
    congr 1
    rw [← htk, List.take_take]
    congr 1; omega
  have hfin : DelPostIS base (n - 1) (xs.take (i * 2) ++ xs.drop ((i + 1) * 2)) (some g) w (.returned (.slice (some ⟨g, 0, none⟩) (n - 1) cap)) W2 :=
    ⟨_, rfl, own_mk hbg hg2 (by omega) hcm (by rw [hr2s, List.size_toArray, hr1l]) hx2, hgr2, rfl⟩
  have HF := Lib.hid hfin; clear hfin
  clear hx2 hgr2 hg2 hW2 hr2t hr2s hgr1 hg1 hW1 hr1l hr1 hdl hc1 hxl hi0 hz0 hzs hzb htk hcs hg h1c
  unfold maxLen at hcm
  have h1 : (i : Int) + 1 ≤ n := by omega
  have h2 : ¬ ((i : Int) = (i : Int) + 1) := by omega
  have h3 : (0 : Int) ≤ (i : Int) + 1 := by omega
  have h4 : ((i : Int) + 1).toNat = i + 1 := by omega
  have h5 : ((n - 1 : Nat) : Int) = (n : Int) - 1 := by omega
  have h6 : n - (n - 1) = 1 := by omega
  have h7 : ¬ cap = n - 1 := by omega
  have h8 : (i : Int) ≤ cap := by omega
  have h9 : i ≤ cap := by omega
  have h10 : i + 1 ≤ n := by omega
  obtain ⟨T, hT, hTa, _, _⟩ := slice_from (P := Try.prog) 93 100 2 Try.underlying93 (by kernel_rfl) Try.sizeOf100 g 0 n cap (i + 1) ((i : Int) + 1) (by omega) (by omega)
  have hap' : ∀ ty, (Builtin.append_ #[93, 93] ty #[.slice (some ⟨g, 0, none⟩) i cap, .slice (some T) (n - (i + 1)) (cap - (i + 1))]).run Try.prog w.drew = .ok (.slice (some ⟨g, 0, none⟩) (n - 1) cap) W1 := fun ty => hap ty T _ (fun h => by rw [hTa (by omega), Nat.zero_add])
  clear hap hTa
  go_enter Try.func55, Try.ntmps55
  go_wp2_with fail
  go_region_law (refine step_append_run rfl _ _ 93 93 rfl _ _ (by simp [Act.eval, Act.put]) (by simp [Act.eval, Act.put]) (hap' _) ?_)
  go_wp2_with (at_builtin; refine wpList_clear_rows _ rfl _ 93 rfl _ rfl (hcl _) ?_)
  go_ret
  exact HF.out
end Go.Proofs.Ytpnkgldpmalklaa
