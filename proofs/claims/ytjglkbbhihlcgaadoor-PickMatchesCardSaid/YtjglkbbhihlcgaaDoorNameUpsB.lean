/- Contracts of name.Ups and of the reference's Ups. -/
import Derived.Test.YtjglkbbhihlcgaaDoorNameUps
set_option linter.unusedVariables false
set_option linter.unusedSimpArgs false
namespace Sw
open Go Go.RowKit
def slLen : Value → Nat
  | .slice _ n _ => n
  | _ => 0
theorem own_slLen {w : World} {base : Nat} {e : TypeId} {size n : Nat} {v : Value} {xs : List Value} (h : w.ownsRow base e size v n xs) : slLen v = n := by
  rcases h.2 with ⟨rfl, h0⟩ | ⟨g, cap, cur, rfl, _⟩
  · exact h0.symm
  · rfl
end Sw
namespace Go.Proofs.YtjglkbbhihlcgaaDoor
open Go Go.RowKit
open Sw
set_option maxRecDepth 100000 in
theorem rev_nil (w : World) (A : Option Addr) (c : Nat) :
    Calls Tryd.prog 54 #[.slice A 0 c] w fun e w' => e = .returned (.tuple #[]) ∧ w = w' := by
  go_enter Tryd.func54, Tryd.ntmps54
  go_wp2_with fail
  go_loopw [2, 3] (fun i j wr => i = .int .i64 0 ∧ j = .int .i64 (-1) ∧ w = wr) (fun _ _ _ => 0)
  case atStart => exact ⟨rfl, rfl, rfl⟩
  case round =>
    obtain ⟨rfl, rfl, rfl⟩ := hrel
    go_wp2_with fail
    go_end0
    exact ⟨rfl, rfl⟩
/-- texts turned round -/
theorem rev_own (w : World) (base : Nat) (v : Value) (l : List ByteArray) (hown : w.ownsRow base 9 1 v l.length (l.flatMap bE)) (hl : l.length ≤ 100000) :
    Calls Tryd.prog 54 #[v] w fun e w' => e = .returned (.tuple #[]) ∧ SlV w' 1 bE v l.reverse ∧ Below base w w' := by
  by_cases h0 : l.length = 0
  · have hl0 : l = [] := List.length_eq_zero_iff.1 h0
    obtain ⟨A, c, rfl, hc, hm, hsl⟩ := SlV.of_own hown bE_len (by omega)
    subst hl0
    exact (rev_nil w A c).mono fun e w' h => ⟨h.1, ⟨A, c, rfl, Nat.zero_le _, hm, SlOf.nil _ _ _ _⟩, by rw [← h.2]; exact Below.refl _ _⟩
  · rcases hown.2 with ⟨_, h⟩ | ⟨g, cap, cur, rfl, hb, hh, hc, hm, hsz, hx⟩
    · omega
    · have hcell : ∀ i, i < l.length → w.cell? ⟨g, 0 + i, none⟩ = some (.string (l.getD i ByteArray.empty)) := fun i hi => by
        have := hown.cells (g := g) rfl i (.string l[i]) (by rw [flat_bE]; simp [List.getElem?_eq_getElem hi])
        rw [add_mk] at this
        rw [this, List.getD_eq_getElem?_getD, List.getElem?_eq_getElem hi]
        rfl
      have hfr : ∀ i, i < l.length → w.frozen? ⟨g, 0 + i, none⟩ = false := fun i hi => by
        have hB : Blk w g 9 cur := hh
        exact hB.frozen (0 + i)
      refine (Tryd.slices_Reverse_string_cells g 0 l.length cap (fun i => l.getD i ByteArray.empty) w (by omega) hcell hfr).mono ?_
      rintro e w' ⟨rfl, q, rfl⟩
      have hstr : (Lib.strsOf (fun i => l.getD i ByteArray.empty) l.length).reverse.map Go.Proofs.encStr = l.reverse.map Value.string := by
        have h1 : Lib.strsOf (fun i => l.getD i ByteArray.empty) l.length = l.map fun b => b.data.toList := by
          unfold Lib.strsOf
          apply List.ext_getElem
          · simp
          · intro i h1 h2
            have hi : i < l.length := by simpa using h2
            simp [List.getD_eq_getElem?_getD, List.getElem?_eq_getElem hi]
        rw [h1, ← List.map_reverse, List.map_map]
        exact List.map_congr_left fun a _ => congrArg Value.string (mkB_data a)
      rw [hstr]
      have hlt : g < w.heap.size := (Array.getElem?_eq_some_iff.1 hh).1
      refine ⟨rfl, ⟨some ⟨g, 0, none⟩, cap, by simp, by simpa using hc, hm, fun hn => ⟨g, 0, rfl, ?_, fun i hi j hj => ?_⟩⟩, ?_⟩
      · have := (Go.Lib.below_setCells_w (B := base) hb (l.reverse.map Value.string) 0 (w.drewN q)).size
        exact Nat.lt_of_lt_of_le hlt this
      · have hj0 : j = 0 := by omega
        subst hj0
        have hin := World.cell?_setCells_in g (l.reverse.map Value.string) 0 (w.drewN q) (fun j hj => by
          have hj' : j < l.length := by simpa using hj
          have := hcell j hj'
          show ((w.drewN q).cell? ⟨g, 0 + j, none⟩).isSome = true
          rw [show (w.drewN q).cell? ⟨g, 0 + j, none⟩ = w.cell? ⟨g, 0 + j, none⟩ from rfl, this]
          rfl) i (by simpa using hi)
        rw [Nat.mul_one, Nat.add_zero, hin]
        simp [bE]
      · have h1 := Go.Lib.below_setCells_w (B := base) hb (l.reverse.map Value.string) 0 (w.drewN q)
        exact below_of_drewN h1
set_option maxRecDepth 100000 in
set_option maxHeartbeats 4000000 in
theorem ups_any (w : World) (s : ByteArray) (hs : s.size ≤ 90000) :
    Calls Tryd.prog 34 #[.string s] w (SlPost (upsS s) w) := by
  have HP0 := Lib.hid (parent_any w s (by omega))
  rw [ups_start] at HP0
  have hstep := ups_step s
  have hlenU : (upsS s).length ≤ 90001 := by
    have h1 := upsS_len s
    have h2 : (partsS s).length ≤ s.size + 1 := by
      unfold partsS
      split
      · exact spS_len s
      · simp
    omega
  generalize upsS s = U at *
  have HST := Lib.hid hstep; clear hstep
  have HF := Lib.hid (fun v w' (h : SlV w' 1 bE v U) (hb : Below w.heap.size w w') => (show SlPost U w (.returned v) w' from ⟨v, rfl, h, hb⟩))
  have hp0 : pAt U 0 = ⟨#[]⟩ := by unfold pAt; rw [dif_neg (by omega)]
  have HP1 := Lib.hid hp0; clear hp0
  go_enter Tryd.func34, Tryd.ntmps34
  go_wp2_with fail
  refine HP0.out.mono ?_
  rintro e w1 ⟨rfl, hb1⟩
  go_wp2_with fail
  go_loopw [0, 2] (fun p o wr => ∃ k, k ≤ U.length ∧ p = .string (pAt U k) ∧ wr.ownsRow w.heap.size 9 1 o (U.length - k) ((U.drop k).reverse.flatMap bE) ∧ Below w.heap.size w wr) (fun _ o _ => U.length - slLen o)
  case atStart => exact ⟨U.length, Nat.le_refl _, rfl, by rw [Nat.sub_self, List.drop_length]; exact ⟨rfl, .inl ⟨rfl, rfl⟩⟩, hb1⟩
  case round =>
    obtain ⟨k, hk, rfl, hown, hbr⟩ := hrel
    cases k with
    | zero =>
      rw [HP1.out]
      rw [List.drop_zero, Nat.sub_zero] at hown
      have hrev := rev_own wr w.heap.size u2 U.reverse (by rw [List.length_reverse]; exact hown) (by rw [List.length_reverse]; omega)
      rw [List.reverse_reverse] at hrev
      have HREV := Lib.hid hrev; clear hrev hown
      have he : (⟨#[]⟩ : ByteArray).toList.isEmpty = true := by rw [str_empty]; exact decide_eq_true rfl
      go_wp2_with fail
      refine HREV.out.mono ?_
      rintro e w5 ⟨rfl, hsl, hb5⟩
      have HG := Lib.hid (HF.out _ w5 hsl (hbr.trans hb5))
      clear hsl
      go_wp2_with fail
      go_ret
      exact HG.out
    | succ k =>
      have hkl : k < U.length := by omega
      obtain ⟨h1, h2, h3⟩ := HST.out k hkl
      have hpos := right_pos h3
      have hPar := fun W => parent_any W U[k] (by omega)
      rw [h1] at hPar
      have hne : U[k].toList.isEmpty = false := by
        rw [str_empty]
        refine decide_eq_false fun e => ?_
        rw [e] at hpos
        exact absurd hpos (by decide)
      have hdr : (U.drop k).reverse.flatMap bE = (U.drop (k + 1)).reverse.flatMap bE ++ [.string U[k]] := by
        rw [List.drop_eq_getElem_cons hkl, List.reverse_cons, flat_snoc]
      have hlen : U.length - k = U.length - (k + 1) + 1 := by omega
      have hsl := own_slLen hown
      rw [pAt_succ U k hkl]
      have HPAR := Lib.hid hPar; clear hPar h1 h2 h3 hpos
      have HDR := Lib.hid (And.intro hdr hlen); clear hdr hlen
      generalize U[k] = X at *
      have hl6 : U.length - (k + 1) + 1 ≤ 1000000 := by omega
      have HO := Lib.hid hown; clear hown
      obtain ⟨m, hm⟩ : ∃ m, m = U.length - (k + 1) := ⟨_, rfl⟩
      rw [← hm] at HO HDR hl6 hsl
      have HM := Lib.hid hm; clear hm
      go_wp2_with (refine wpList_app rfl _ _ 26 rfl w.heap.size 9 (.string ByteArray.empty) 1 16 Tryd.underlying26 info_str rfl (by omega) u2 m ((U.drop (k + 1)).reverse.flatMap bE) (by simp [Act.eval, Act.put]) (own_kept HO.out ((Below.refl _ _).alloc (Nat.le_refl _) _)) wr.heap.size 1 _ _ (by simp [Act.eval, Act.put]) (Blk.new _ _ _) rfl (by simp [Value.oneCell']) hl6 (by omega) (by have := hbr.size; simp; omega) _ rfl ?_; intro g2 cap2 w5 ho2 hg2 hat2 hlt2)
      have hw5 : Below w.heap.size w w5 := own_below HO.out (hbr.alloc hbr.size _) hg2 (Nat.le_refl _) (by have := hbr.size; simp; omega)
      refine (HPAR.out _).mono ?_
      rintro e w6 ⟨rfl, hb6⟩
      have ho6 := own_kept ho2 hb6
      go_wp2_with fail
      go_roundw
      case rel => exact ⟨k, by omega, rfl, by rw [HDR.out.1, HDR.out.2]; exact ho6, hw5.trans (hb6.mono hw5.size)⟩
      case measure => have := HM.out; rw [hsl]; simp [slLen]; omega
end Go.Proofs.YtjglkbbhihlcgaaDoor
