/- The walk of RunsBack. -/
import Derived.Test.YthmlfeaoaanmoaaLift
import Derived.Test.YthmlfeaoaanmoaaRunsReadsWalk
set_option linter.unusedVariables false
set_option linter.unusedSimpArgs false
namespace Go.Proofs.Ythmlfeaoaanmoaa
open Go Go.ChangeShapes Go.WideShapes Go.ChangeAt Go.RowKit
open Sw
/-- the cells of uints -/
def uE (x : Nat) : List Value := [.int .u64 (x : Int)]
def rowU (l : List Nat) : List Int := l.map fun x => ((x % 16 : Nat) : Int)
theorem rowU_good (l : List Nat) : goodB (rowU l) = true := by
  unfold goodB rowU
  rw [List.all_eq_true]
  intro x hx
  obtain ⟨y, _, rfl⟩ := List.mem_map.1 hx
  simp; omega
set_option maxRecDepth 100000 in
set_option maxHeartbeats 8000000 in
theorem runsBack_main (w : World) (A : Option Addr) (n c : Nat) (l : List Nat) (hl : l.length = n) (hnc : n ≤ c) (hc : c ≤ maxLen) (hsl : SlOf w 1 uE A l) (hv : ∀ x ∈ l, x < 18446744073709551616) :
    Calls Try.prog 9 #[.slice A n c] w fun e w' => e = .returned (.bool true) ∧ Below w.heap.size w w' := by
  have hmm := hc
  unfold maxLen at hmm
  by_cases hbig : 400 < n
  · clear hsl hl hv
    go_enter Try.func9, Try.ntmps9
    go_wp2_with fail
    refine (runs_lives _).mono ?_
    rintro e w1 ⟨rfl, hb1⟩
    go_wp2_with fail
    go_ret
    exact ⟨rfl, hb1⟩
  have HS := Lib.hid hsl; clear hsl
  have HL := Lib.hid hl; clear hl
  have HVV := Lib.hid hv; clear hv
  go_enter Try.func9, Try.ntmps9
  go_wp2_with fail
  go_loopw [3, 16] (fun o t wr => ∃ k : Nat, k ≤ n ∧ t = .int .i64 k ∧ wr.ownsRow w.heap.size 3 1 o k (rowI (rowU (l.take k))) ∧ Below w.heap.size w wr) (fun _ t _ => n - (intOf t).toNat)
  case atStart => exact ⟨0, Nat.zero_le _, rfl, ⟨rfl, .inl ⟨rfl, rfl⟩⟩, Below.refl _ _⟩
  case round =>
    obtain ⟨k, hk, rfl, hown, hbw⟩ := hrel
    by_cases hlt : k < n
    · have hkl : k < l.length := by have := HL.out; omega
      obtain ⟨b, off, rfl, hbb, hcs⟩ := HS.out (by omega)
      have h0 := hcs k hkl 0 (by omega)
      rw [← hbw.cell (p := ⟨b, _, none⟩) hbb] at h0
      simp [uE] at h0
      have htk : l.take (k + 1) = l.take k ++ [l[k]] := List.take_succ_eq_append_getElem hkl
      have hrs : rowI (rowU (l.take (k + 1))) = rowI (rowU (l.take k)) ++ [.int .i64 ((l[k] : Int) % 16)] := by
        rw [htk]; unfold rowU rowI; rw [List.map_append, List.flatMap_append]; congr 1
      have hx := HVV.out l[k] (List.getElem_mem hkl)
      have HRS := Lib.hid hrs; clear hrs htk hcs
      generalize l[k] = x at *
      have HO := Lib.hid hown; clear hown
      have hk6 : k + 1 ≤ 1000000 := by omega
      have hx0 : (0 : Int) ≤ x := by omega
      have hx1 : (x : Int) < 18446744073709551616 := by omega
      go_wp2_with (refine wpList_app rfl _ _ 48 rfl w.heap.size 3 (.int .i64 0) 1 8 Try.underlying48 info_i rfl (by omega) u3 k (rowI (rowU (l.take k))) (by simp [Act.eval, Act.put]) (own_kept HO.out ((Below.refl _ _).alloc (Nat.le_refl _) _)) wr.heap.size 1 _ _ (by simp [Act.eval, Act.put]) (Blk.new _ _ _) rfl (by simp [Value.oneCell']) hk6 (by omega) (by have := hbw.size; simp; omega) _ rfl ?_; intro g2 cap2 w5 ho2 hg2 hat2 hlt2)
      have hw5 : Below w.heap.size w w5 := own_below HO.out (hbw.alloc hbw.size _) hg2 (Nat.le_refl _) (by have := hbw.size; simp; omega)
      go_roundw
      case rel => exact ⟨k + 1, by omega, by go_num, by rw [HRS.out]; exact ho2, hw5⟩
      case measure => simp [intOf]; omega
    · obtain rfl : k = n := by omega
      have ht : l.take k = l := List.take_of_length_le (by have := HL.out; omega)
      rw [ht] at hown
      obtain ⟨A2, c2, rfl, hc2, hcm2, hs2⟩ := SlV.of_own hown intE_len (by omega)
      have hrl : (rowU l).length = k := by rw [rowU, List.length_map]; exact HL.out
      rw [hrl] at hc2 ⊢
      have hO := of_sl wr A2 k c2 (rowU l) hrl hc2 hcm2 hs2
      have hofR : ofR (rowU l) = ofL (rowU l) := by unfold ofR; rw [if_pos ⟨rowU_good l, by rw [hrl]; omega⟩]
      have hback := back_ofL (rowU l) (rowU_good l) (by rw [hrl]; omega)
      have hlen : (ofL (rowU l)).length ≤ k := by
        have := ofGo_len (rowU l).length (rowU l) (-1)
        unfold ofL; omega
      rw [hofR] at hO
      have HO1 := Lib.hid hO; clear hO
      have HBACK := Lib.hid hback; clear hback
      have HRL := Lib.hid hrl; clear hrl
      have HS2 := Lib.hid hs2; clear hs2
      unfold maxLen at hcm2
      clear hown ht HS HL HVV hofR
      generalize ofL (rowU l) = st at *
      generalize rowU l = row at *
      go_wp2_with fail
      refine HO1.out.mono ?_
      rintro e w1 ⟨v, rfl, ⟨A3, c3, rfl, hc3, hcm3, hs3⟩, hb1⟩
      have hbw1 := hbw.trans (hb1.mono hbw.size)
      have hB1 := (back_any w1 A3 st.length c3 st rfl (by unfold maxLen at *; omega) hs3).mono fun e w' h => (back_sl h).some HBACK.out
      have HB1 := Lib.hid hB1; clear hB1 hs3
      unfold maxLen at hcm3
      go_wp2_with fail
      refine HB1.out.mono ?_
      rintro e w2 ⟨v2, rfl, ⟨A4, c4, rfl, hc4, hcm4, hs4⟩, hb2⟩
      have hbw2 := hbw1.trans (hb2.mono hbw1.size)
      have HS3 := Lib.hid ((HS2.out.below hb1 (Nat.le_refl _)).below hb2 (Nat.le_refl _))
      have HS4 := Lib.hid hs4; clear hs4
      unfold maxLen at hcm4
      have hrlk : row.length = k := HRL.out
      rw [hrlk] at hc4 ⊢
      clear hrlk
      have hgt : ¬ k < st.length := by omega
      have hgt2 : ¬ (k : Int) < st.length := by omega
      go_wp2_with fail
      go_loopw [2, 9, 52] (fun o _ t wr => ∃ i : Nat, i ≤ k ∧ t = .int .i64 i ∧ o = .bool false ∧ ∃ m, wr = w2.drewN m) (fun _ _ t _ => k - (intOf t).toNat)
      case atStart => exact ⟨0, Nat.zero_le _, rfl, rfl, 0, rfl⟩
      case round =>
        obtain ⟨i, hi, rfl, rfl, m, rfl⟩ := hrel
        by_cases hin : i < k
        · have hio : i < row.length := by have := HRL.out; omega
          obtain ⟨b3, off3, rfl, hbb3, hcs3⟩ := HS3.out (by omega)
          obtain ⟨b4, off4, rfl, hbb4, hcs4⟩ := HS4.out (by omega)
          have e3 := hcs3 i hio 0 (by omega)
          have e4 := hcs4 i hio 0 (by omega)
          simp [intE] at e3 e4
          clear hcs3 hcs4
          generalize row[i] = y at *
          have hi0 : (0 : Int) ≤ i := by omega
          have hi1 : (i : Int) < k := by omega
          go_wp2_with fail
          go_quiet (fail)
          go_wp2_with fail
          go_roundw
          case rel => exact ⟨i + 1, by omega, by go_num, rfl, _, rfl⟩
          case measure => simp [intOf]; omega
        · obtain rfl : i = k := by omega
          clear HS3 HS4
          have hbw3 := below_drewN hbw2 m
          generalize w2.drewN m = w4 at *
          go_wp2_with fail
          refine (runs_lives _).mono ?_
          rintro e w3 ⟨rfl, hb3⟩
          go_wp2_with fail
          go_ret
          exact ⟨rfl, hbw3.trans (hb3.mono hbw3.size)⟩
set_option maxRecDepth 100000 in
theorem dec_uint {H : Type} {enc : TypeId × Value → H} {w : World} (fuel : Nat) (cs : List Value) (x : DataW H × List MemPlace) (h : DataW.trod enc Try.prog w 0 (fun _ => true) true fuel 65 cs = some x) :
    ∃ k : Nat, cs = uE k ∧ k < 18446744073709551616 := by
  obtain ⟨k, ek, _, wk⟩ := DataW.trod_int Try.underlying65 h
  obtain ⟨k0, k1⟩ := bounds_u64 wk
  obtain ⟨k, rfl⟩ := Int.eq_ofNat_of_zero_le k0
  exact ⟨k, ek, by omega⟩
set_option maxRecDepth 100000 in
theorem runsBack_walk : Walks 9 Try.f9 := by
  intro H enc W base args ds ps hval hA hlt hsz
  rw [Try.params9] at hA hval
  obtain ⟨v0, d0, rfl, rfl, h0⟩ := trodAll_one hA
  obtain ⟨A, n, c, l, rfl, hnc, hcm, hl, hsl, hv, _⟩ := open_slice_dec (size := 1) uE (fun k => k < 18446744073709551616) Try.underlying64 (by kernel_rfl) (by omega) dec_uint (hval 0 64 v0 rfl rfl) h0
  exact runsBack_main W A n c l hl hnc hcm hsl hv
end Go.Proofs.Ythmlfeaoaanmoaa
