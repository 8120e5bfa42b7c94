/- The walk of RunsReads. -/
import Derived.Test.YthmlfeaoaanmoaaLift
import Derived.Test.YthmlfeaoaanmoaaRunsLives
import Derived.Test.YthmlfeaoaanmoaaRunsRefBack
set_option linter.unusedVariables false
set_option linter.unusedSimpArgs false
namespace Go.Proofs.Ythmlfeaoaanmoaa
open Go Go.ChangeShapes Go.WideShapes Go.ChangeAt Go.RowKit
open Sw
/-- what Back answers, as a slice that can be read -/
def BackSl (l : List St) (w : World) (e : Ending) (w' : World) : Prop :=
  Below w.heap.size w w' ∧ match backGo l [] with
  | none => e = .returned (.tuple #[.slice none 0 0, .bool false])
  | some out => ∃ v, e = .returned (.tuple #[v, .bool true]) ∧ SlV w' 1 intE v out
theorem back_sl {l : List St} {w : World} {e : Ending} {w' : World} (h : BackPost l w e w') : BackSl l w e w' := by
  unfold BackPost at h
  refine ⟨h.1, ?_⟩
  have h2 := h.2
  split
  · rename_i hb; rw [hb] at h2; exact h2
  · rename_i out hb; rw [hb] at h2
    obtain ⟨v, hv, ho⟩ := h2
    exact ⟨v, hv, SlV.of_own ho intE_len (by omega)⟩
theorem BackSl.none {l : List St} {w : World} {e : Ending} {w' : World} (h : BackSl l w e w') (hn : backGo l [] = none) : e = .returned (.tuple #[.slice none 0 0, .bool false]) ∧ Below w.heap.size w w' := by
  have h2 := h.2
  rw [hn] at h2
  exact ⟨h2, h.1⟩
theorem BackSl.some {l : List St} {w : World} {e : Ending} {w' : World} {out : List Int} (h : BackSl l w e w') (hn : backGo l [] = some out) : ∃ v, e = .returned (.tuple #[v, .bool true]) ∧ SlV w' 1 intE v out ∧ Below w.heap.size w w' := by
  have h2 := h.2
  rw [hn] at h2
  obtain ⟨v, h3, h4⟩ := h2
  exact ⟨v, h3, h4, h.1⟩
set_option maxRecDepth 100000 in
set_option maxHeartbeats 8000000 in
theorem runsReads_main (w : World) (A : Option Addr) (n c : Nat) (l : List St) (hl : l.length = n) (hnc : n ≤ c) (hc : c ≤ maxLen) (hsl : SlOf w 3 stC A l) :
    Calls Try.prog 8 #[.slice A n c] w fun e w' => e = .returned (.bool true) ∧ Below w.heap.size w w' := by
  have hmm := hc
  unfold maxLen at hmm
  by_cases hbig : 60 < n
  · clear hsl hl
    go_enter Try.func8, Try.ntmps8
    go_wp2_with fail
    refine (runs_lives _).mono ?_
    rintro e w1 ⟨rfl, hb1⟩
    go_wp2_with fail
    go_ret
    exact ⟨rfl, hb1⟩
  have HS := Lib.hid hsl; clear hsl
  have HL := Lib.hid hl; clear hl
  go_enter Try.func8, Try.ntmps8
  go_wp2_with fail
  go_loopw [3, 17] (fun o t wr => ∃ k : Nat, k ≤ n ∧ t = .int .i64 k ∧ wr.ownsRow w.heap.size 56 3 o k (rowS (l.take k)) ∧ Below w.heap.size w wr) (fun _ t _ => n - (intOf t).toNat)
  case atStart => exact ⟨0, Nat.zero_le _, rfl, ⟨rfl, .inl ⟨rfl, rfl⟩⟩, Below.refl _ _⟩
  case round =>
    obtain ⟨k, hk, rfl, hown, hbw⟩ := hrel
    by_cases hlt : k < n
    · have hkl : k < l.length := by have := HL.out; omega
      obtain ⟨b, off, rfl, hbb, hcs⟩ := HS.out (by omega)
      have h0 := hcs k hkl 0 (by omega)
      have h1 := hcs k hkl 1 (by omega)
      have h2 := hcs k hkl 2 (by omega)
      rw [← hbw.cell (p := ⟨b, _, none⟩) hbb] at h0 h1 h2
      simp [stC] at h0 h1 h2
      have hnb : b ≠ wr.heap.size := by have := hbw.size; omega
      have htk : l.take (k + 1) = l.take k ++ [l[k]] := List.take_succ_eq_append_getElem hkl
      have hrs : rowS (l.take (k + 1)) = rowS (l.take k) ++ stC l[k] := by rw [htk, rowS_snoc]
      unfold stC at hrs
      have HRS := Lib.hid hrs; clear hrs htk hcs
      generalize l[k].sym = sa at *
      generalize l[k].bits = sb at *
      generalize l[k].more = sc at *
      have HO := Lib.hid hown; clear hown
      have hk6 : k + 1 ≤ 1000000 := by omega
      go_wp2_with (refine wpList_app rfl _ _ 49 rfl w.heap.size 56 (.agg #[.int .i64 0, .int .i64 0, .int .i64 0]) 3 24 Try.underlying49 info_step rfl (by omega) u3 k (rowS (l.take k)) (by simp [Act.eval, Act.put]) (own_kept HO.out (((Below.refl _ _).alloc (Nat.le_refl _) _).alloc (by simp) _)) (wr.heap.size + 1) 1 _ _ (by simp [Act.eval, Act.put]) (blk_snd _ _ _ _) rfl (by simp [Value.oneCell']) hk6 (by omega) (by have := hbw.size; simp; omega) _ rfl ?_; intro g2 cap2 w5 ho2 hg2 hat2 hlt2)
      have hw5 : Below w.heap.size w w5 := own_below HO.out ((hbw.alloc hbw.size (Obj.cells #[.int .i64 sa, .int .i64 sb, .int .i64 sc] 55)).alloc (by have := hbw.size; simp; omega) (Obj.cells #[.int .i64 sa, .int .i64 sb, .int .i64 sc] 56)) hg2 (Nat.le_refl _) (by have := hbw.size; simp; omega)
      go_roundw
      case rel => exact ⟨k + 1, by omega, by go_num, by rw [HRS.out]; exact ho2, hw5⟩
      case measure => simp [intOf]; omega
    · obtain rfl : k = n := by omega
      have ht : l.take k = l := List.take_of_length_le (by have := HL.out; omega)
      rw [ht] at hown
      obtain ⟨A2, c2, rfl, hc2, hcm2, hs2⟩ := SlV.of_own hown stC_len (by omega)
      have hB1 := (back_any wr A2 l.length c2 l rfl (by unfold maxLen at *; omega) hs2).mono fun e w' h => back_sl h
      have hB2 := fun W (hb : Below w.heap.size w W) => (refBack_any W A k c l HL.out (by unfold maxLen; omega) (HS.out.below hb (Nat.le_refl _))).mono fun e w' h => back_sl h
      have HB1 := Lib.hid hB1; clear hB1
      have HB2 := Lib.hid hB2; clear hB2
      clear hown ht hs2 HS HL
      go_wp2_with fail
      refine HB1.out.mono ?_
      cases hbk : backGo l [] with
      | none =>
        rintro e w1 h1
        obtain ⟨rfl, hb1⟩ := h1.none hbk
        have hbw1 := hbw.trans (hb1.mono hbw.size)
        have HBK := Lib.hid hbk; clear hbk
        go_wp2_with fail
        refine (HB2.out _ hbw1).mono ?_
        rintro e w2 h2
        obtain ⟨rfl, hb2⟩ := h2.none HBK.out
        have hbw2 := hbw1.trans (hb2.mono hbw1.size)
        clear h1 h2
        go_wp2_with fail
        go_loopw [10, 48] (fun _ t wr => t = .int .i64 0 ∧ wr = w2) (fun _ _ _ => 1)
        case atStart => exact ⟨rfl, rfl⟩
        case round =>
          obtain ⟨rfl, rfl⟩ := hrel
          go_wp2_with fail
          refine (runs_lives _).mono ?_
          rintro e w3 ⟨rfl, hb3⟩
          go_wp2_with fail
          go_ret
          exact ⟨rfl, hbw2.trans (hb3.mono hbw2.size)⟩
      | some out =>
        rintro e w1 h1
        obtain ⟨v1, rfl, hv1, hb1⟩ := h1.some hbk
        have hbw1 := hbw.trans (hb1.mono hbw.size)
        have HBK := Lib.hid hbk; clear hbk
        have HV1 := Lib.hid hv1; clear hv1
        go_wp2_with fail
        refine (HB2.out _ hbw1).mono ?_
        rintro e w2 h2
        obtain ⟨v2, rfl, hv2, hb2⟩ := h2.some HBK.out
        have hbw2 := hbw1.trans (hb2.mono hbw1.size)
        obtain ⟨A3, c3, rfl, hc3, hcm3, hs3⟩ := HV1.out.below hb2 (Nat.le_refl _)
        obtain ⟨A4, c4, rfl, hc4, hcm4, hs4⟩ := hv2
        unfold maxLen at hcm3 hcm4
        have HS3 := Lib.hid hs3; clear hs3
        have HS4 := Lib.hid hs4; clear hs4
        clear h1 h2 HBK HV1
        generalize hN : out.length = N at *
        have HN := Lib.hid hN; clear hN
        go_wp2_with fail
        go_loopw [2, 10, 48] (fun o _ t wr => ∃ i : Nat, i ≤ N ∧ t = .int .i64 i ∧ o = .bool false ∧ ∃ m, wr = w2.drewN m) (fun _ _ t _ => N - (intOf t).toNat)
        case atStart => exact ⟨0, Nat.zero_le _, rfl, rfl, 0, rfl⟩
        case round =>
          obtain ⟨i, hi, rfl, rfl, m, rfl⟩ := hrel
          by_cases hin : i < N
          · have hio : i < out.length := by have := HN.out; omega
            obtain ⟨b3, off3, rfl, hbb3, hcs3⟩ := HS3.out (by omega)
            obtain ⟨b4, off4, rfl, hbb4, hcs4⟩ := HS4.out (by omega)
            have e3 := hcs3 i hio 0 (by omega)
            have e4 := hcs4 i hio 0 (by omega)
            simp [intE] at e3 e4
            clear hcs3 hcs4
            generalize out[i] = y at *
            have hi0 : (0 : Int) ≤ i := by omega
            have hi1 : (i : Int) < N := by omega
            go_wp2_with fail
            go_quiet (fail)
            go_wp2_with fail
            go_roundw
            case rel => exact ⟨i + 1, by omega, by go_num, rfl, _, rfl⟩
            case measure => simp [intOf]; omega
          · obtain rfl : i = N := by omega
            clear HS3 HS4
            have hbw3 := below_drewN hbw2 m
            generalize w2.drewN m = w4 at *
            go_wp2_with fail
            refine (runs_lives _).mono ?_
            rintro e w3 ⟨rfl, hb3⟩
            go_wp2_with fail
            go_ret
            exact ⟨rfl, hbw3.trans (hb3.mono hbw3.size)⟩
set_option maxRecDepth 100000 in
theorem dec_st {H : Type} {enc : TypeId × Value → H} {w : World} (fuel : Nat) (cs : List Value) (x : DataW H × List MemPlace) (h : DataW.trod enc Try.prog w 0 (fun _ => true) true fuel 55 cs = some x) :
    ∃ s : St, cs = stC s ∧ True := by
  obtain ⟨hl, hf⟩ := dec_fields Try.underlying55 (by kernel_rfl) (by kernel_rfl) h
  match cs, hl with
  | [c0, c1, c2], _ =>
    obtain ⟨v0, n0, y0, e0, h0⟩ := hf 0 _ rfl
    obtain ⟨v1, n1, y1, e1, h1⟩ := hf 1 _ rfl
    obtain ⟨v2, n2, y2, e2, h2⟩ := hf 2 _ rfl
    simp at e0 e1 e2
    subst e0 e1 e2
    obtain ⟨k, ek, _, wk⟩ := DataW.trod_int Try.underlying3 h0
    obtain ⟨m, em, _, wm⟩ := DataW.trod_int Try.underlying3 h1
    obtain ⟨q, eq, _, wq⟩ := DataW.trod_int Try.underlying3 h2
    simp at ek em eq
    subst ek em eq
    exact ⟨⟨k, m, q⟩, rfl, trivial⟩
set_option maxRecDepth 100000 in
theorem runsReads_walk : Walks 8 Try.f8 := by
  intro H enc W base args ds ps hval hA hlt hsz
  rw [Try.params8] at hA hval
  obtain ⟨v0, d0, rfl, rfl, h0⟩ := trodAll_one hA
  obtain ⟨A, n, c, l, rfl, hnc, hcm, hl, hsl, hv, _⟩ := open_slice_dec (size := 3) stC (fun _ => True) Try.underlying51 (by kernel_rfl) (by omega) dec_st (hval 0 51 v0 rfl rfl) h0
  exact runsReads_main W A n c l hl hnc hcm hsl
end Go.Proofs.Ythmlfeaoaanmoaa
