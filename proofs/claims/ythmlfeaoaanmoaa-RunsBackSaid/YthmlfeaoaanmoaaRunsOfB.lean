/- The contract of runs.Of, of a row that may be. -/
import Derived.Test.YthmlfeaoaanmoaaRunsOf
set_option linter.unusedVariables false
set_option linter.unusedSimpArgs false
namespace Go.Proofs.Ythmlfeaoaanmoaa
open Go.RowKit
open Sw
/-- how long a slice is -/
def lenV : Value → Nat
  | .slice _ n _ => n
  | _ => 0
set_option maxRecDepth 100000 in
set_option maxHeartbeats 8000000 in
theorem of_good (w : World) (A : Option Addr) (n c : Nat) (l : List Int) (hl : l.length = n) (hnc : n ≤ c) (hc : c ≤ maxLen) (hsl : SlOf w 1 intE A l) (hg : goodB l = true) (hle : n ≤ 400) :
    Calls Try.prog 31 #[.slice A n c] w (OfPost l w) := by
  have hfin : ∀ (v : Value) (w' : World), w'.ownsRow w.heap.size 56 3 v (ofL l).length (rowS (ofL l)) → Below w.heap.size w w' → OfPost l w (.returned v) w' := fun v w' h hb => ⟨_, rfl, by
    unfold ofR; rw [if_pos ⟨hg, by omega⟩]; exact h, hb⟩
  have HF := Lib.hid hfin; clear hfin
  have hmm := hc
  unfold maxLen at hmm
  have HS := Lib.hid hsl; clear hsl
  have HL := Lib.hid hl
  have HG := Lib.hid (fun i h => goodB_at hg i h)
  clear hl hg
  go_enter Try.func31, Try.ntmps31
  go_wp2_with fail
  go_loop [2, 4, 13] (fun o _ t => ∃ k : Nat, k ≤ n ∧ t = .int .i64 k ∧ o = .slice none 0 0) (fun _ _ t => n - (intOf t).toNat)
  case atStart => exact ⟨0, Nat.zero_le _, rfl, rfl⟩
  case round =>
    obtain ⟨k, hk, rfl, rfl⟩ := hrel
    by_cases hlt : k < n
    · have hkl : k < l.length := by have := HL.out; omega
      obtain ⟨b, off, rfl, hb, hcs⟩ := HS.out (by omega)
      have hc0 := hcs k hkl 0 (by omega)
      simp [intE] at hc0
      clear hcs
      have ⟨h0, h1⟩ := HG.out k hkl
      have h0' : ¬ l[k] < 0 := by omega
      generalize l[k] = x at *
      go_wp2_with fail
      exact ⟨⟨k + 1, by omega, by go_num, rfl⟩, by simp [intOf]; omega⟩
    · obtain rfl : k = n := by omega
      clear hlt
      go_wp2_with fail
      go_loopw [0, 2, 5] (fun v0 out ah wr => ∃ (A' : Option Addr) (n' c' : Nat) (r : List Int) (a : Int) (outs : List St) (f : Nat), v0 = .slice A' n' c' ∧ r.length = n' ∧ n' ≤ c' ∧ c' ≤ 9223372036854775807 ∧ SlOf w 1 intE A' r ∧ ah = .int .i64 a ∧ n' ≤ f ∧ outs ++ ofGo f r a = ofL l ∧ outs.length + n' ≤ 400 ∧ wr.ownsRow w.heap.size 56 3 out outs.length (rowS outs) ∧ Below w.heap.size w wr) (fun v0 _ _ _ => lenV v0)
      case atStart => exact ⟨A, k, c, l, -1, [], l.length, rfl, HL.out, hnc, hmm, HS.out, rfl, by have := HL.out; omega, rfl, by simp; omega, ⟨rfl, .inl ⟨rfl, rfl⟩⟩, Below.refl _ _⟩
      case round =>
        obtain ⟨A', n', c', r, a, outs, f, rfl, hr, hnc', hcm, hsr, rfl, hf, heq, hlen, hown, hbw⟩ := hrel
        clear hle hk
        by_cases hz : n' = 0
        · subst hz
          have hr0 : r = [] := List.length_eq_zero_iff.1 hr
          have ho : outs = ofL l := by rw [hr0, ofGo_nil, List.append_nil] at heq; exact heq
          have HFIN := Lib.hid (HF.out _ _ (by rw [← ho]; exact hown) hbw)
          clear ho hr0 heq hr hsr hown hbw HF
          go_wp2_with fail
          go_ret
          exact HFIN.out
        · have hp := nextS_props r a (by omega)
          have hnx := fun W hs => next_any W A' n' c' r a hr (by omega) (by unfold maxLen; omega) hs
          have hsr2 := hsr.below hbw (Nat.le_refl _)
          obtain ⟨f', rfl⟩ : ∃ f', f = f' + 1 := ⟨f - 1, by omega⟩
          rw [ofGo, if_neg (by omega)] at heq
          generalize nextS r a = S at *
          obtain ⟨⟨sa, sb, sc⟩, sd⟩ := S
          simp only at hp heq hnx
          obtain ⟨j, rfl⟩ : ∃ j : Nat, sd = (j : Int) + 1 := ⟨(sd - 1).toNat, by omega⟩
          have hjn : j < n' := by omega
          have hj1 : ((j : Int) + 1).toNat = j + 1 := by omega
          rw [hj1] at heq
          simp only [Nat.add_sub_cancel] at heq
          have hcut := hsr.cut (j + 1) c' (by omega) (by omega)
          obtain ⟨b, off, rfl, hbb, hcs⟩ := hsr (by omega)
          have hcell := hcs j (by omega) 0 (by omega)
          have hgd : r.getD j 0 = r[j]'(by omega) := by simp [List.getD_eq_getElem?_getD, List.getElem?_eq_getElem (show j < r.length by omega)]
          simp [intE] at hcell
          rw [← hgd] at hcell
          clear hcs hgd hp hz
          have hdl : (r.drop (j + 1)).length = n' - (j + 1) := by rw [List.length_drop, hr]
          have HEQ := Lib.hid heq; clear heq
          have HDL := Lib.hid hdl; clear hdl
          have HCUT := Lib.hid hcut; clear hcut
          have HNX := Lib.hid hnx; clear hnx
          have HSR := Lib.hid hsr2; clear hsr2
          have HOWN := Lib.hid hown; clear hown
          have HCELL := Lib.hid hcell; clear hcell
          generalize r.getD j 0 = x at *
          generalize r.drop (j + 1) = r' at *
          clear hr hj1
          simp only [stV] at HNX
          go_wp2_with fail
          refine (HNX.out _ HSR.out).mono ?_
          rintro e w1 ⟨rfl, hb1⟩
          have hbw1 := hbw.trans (hb1.mono hbw.size)
          have HOWN1 := Lib.hid (own_kept HOWN.out hb1)
          go_wp2_with (refine wpList_app rfl _ _ 49 rfl w.heap.size 56 (.agg #[.int .i64 0, .int .i64 0, .int .i64 0]) 3 24 Try.underlying49 info_step rfl (by omega) u2 outs.length (rowS outs) (by simp [Act.eval, Act.put]) (own_kept HOWN1.out (((Below.refl _ _).alloc (Nat.le_refl _) _).alloc (by simp) _)) (w1.heap.size + 1) 1 _ _ (by simp [Act.eval, Act.put]) (blk_snd _ _ _ _) rfl (by simp [Value.oneCell']) (by omega) (by omega) (by have := hbw1.size; simp; omega) _ rfl ?_; intro g2 cap2 w5 ho2 hg2 hat2 hlt2)
          have hw5 : Below w.heap.size w w5 := own_below HOWN.out ((hbw1.alloc hbw1.size (Obj.cells #[.int .i64 sa, .int .i64 sb, .int .i64 sc] 56)).alloc (by have := hbw1.size; simp; omega) (Obj.cells #[.int .i64 sa, .int .i64 sb, .int .i64 sc] 56)) hg2 (Nat.le_refl _) (by have := hbw1.size; simp; omega)
          have hc5 : w5.cell? ⟨b, off + j, none⟩ = some (.int .i64 x) := (hw5.cell (p := ⟨b, off + j, none⟩) hbb).trans HCELL.out
          have HO2 := Lib.hid ho2; clear ho2 hg2 hat2
          have hj0 : (0 : Int) ≤ j := by omega
          have hjc : (j : Int) < n' := by omega
          have hsum : (j : Int) + 1 - 1 = j := by omega
          have hlo : (0 : Int) ≤ (j : Int) + 1 := by omega
          have hhi : (j : Int) + 1 ≤ n' := by omega
          have hnn : ((j : Int) + 1).toNat = j + 1 := by omega
          have hw1' : IntKind.i64.wrap ((j : Int) + 1 - 1) = j := by rw [hsum]; exact IntWalk.i64_in _ (by omega)
          go_quiet (fail)
          go_roundw
          case rel =>
            repeat apply Exists.intro
            refine ⟨⟨_, _, _, r', x, outs ++ [⟨sa, sb, sc⟩], f', rfl, HDL.out, by omega, by omega, ?_, rfl, by omega, ?_, ?_, ?_, ?_⟩, rfl⟩
            · have h := HCUT.out
              rw [Option.map_some, add_mk, Nat.mul_one] at h
              exact h
            · rw [List.append_assoc]; exact HEQ.out
            · rw [List.length_append, List.length_singleton]; omega
            · rw [rowS_snoc, List.length_append]; exact HO2.out
            · exact below_drewN hw5 _
          case measure => 
            simp [lenV]
            omega
end Go.Proofs.Ythmlfeaoaanmoaa
