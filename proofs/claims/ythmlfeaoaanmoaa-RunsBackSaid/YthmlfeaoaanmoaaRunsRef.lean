/- The contract of the reference's Of. -/
import Derived.Test.YthmlfeaoaanmoaaRunsOfB
import Derived.Deep.CutBlock
import Derived.IntWalk
set_option linter.unusedVariables false
set_option linter.unusedSimpArgs false
namespace Go.Proofs.Ythmlfeaoaanmoaa
open Go.RowKit
open Sw
theorem of_any (w : World) (A : Option Addr) (n c : Nat) (l : List Int) (hl : l.length = n) (hnc : n ≤ c) (hc : c ≤ maxLen) (hsl : SlOf w 1 intE A l) :
    Calls Try.prog 31 #[.slice A n c] w (OfPost l w) := by
  by_cases h : goodB l = true ∧ l.length ≤ 400
  · exact of_good w A n c l hl hnc hc hsl h.1 (by omega)
  · exact of_bad w A n c l hl (by omega) hsl h
def agN (l : List Int) (i : Nat) : Nat := if i = 0 then 0 else min (cntRun (l.getD (i - 1) 0) (l.drop i)) 6
def prevL (l : List Int) (i : Nat) : Int := if i = 0 then -1 else l.getD (i - 1) 0
def refS (x : Int) (z g : Nat) : St × Int := if 11 ≤ z then (⟨18, 7, (z : Int) - 11⟩, (z : Int)) else if 3 ≤ z then (⟨17, 3, (z : Int) - 3⟩, (z : Int)) else if 3 ≤ g then (⟨16, 2, (g : Int) - 3⟩, (g : Int)) else (⟨x, 0, 0⟩, 1)
theorem nextS_ref (l : List Int) (i : Nat) (hi : i < l.length) (h0 : 0 ≤ l.getD i 0) : nextS (l.drop i) (prevL l i) = refS (l.getD i 0) (min (cntRun 0 (l.drop i)) 138) (agN l i) := by
  have hh : (l.drop i).headD 0 = l.getD i 0 := by
    rw [List.drop_eq_getElem_cons hi, List.headD_cons]
    simp [List.getD_eq_getElem?_getD, List.getElem?_eq_getElem hi]
  have ha : (3 ≤ cntRun (prevL l i) (l.drop i) ↔ 3 ≤ agN l i) ∧ (3 ≤ agN l i → agN l i = min (cntRun (prevL l i) (l.drop i)) 6) := by
    unfold agN prevL
    by_cases hz : i = 0
    · rw [if_pos hz, if_pos hz]
      have : cntRun (-1) (l.drop i) = 0 := by
        rw [List.drop_eq_getElem_cons hi, cntRun, if_neg]
        have : l[i] = l.getD i 0 := by simp [List.getD_eq_getElem?_getD, List.getElem?_eq_getElem hi]
        omega
      omega
    · rw [if_neg hz, if_neg hz]; omega
  unfold nextS stepS refS
  rw [hh]
  by_cases h1 : 11 ≤ cntRun 0 (l.drop i)
  · rw [if_pos h1, if_pos (by omega)]
    simp [bitsI, capI, leastI]
    omega
  · rw [if_neg h1, if_neg (show ¬ 11 ≤ min (cntRun 0 (l.drop i)) 138 by omega)]
    by_cases h2 : 3 ≤ cntRun 0 (l.drop i)
    · rw [if_pos h2, if_pos (by omega)]
      simp [bitsI, capI, leastI]
      omega
    · rw [if_neg h2, if_neg (show ¬ 3 ≤ min (cntRun 0 (l.drop i)) 138 by omega)]
      by_cases h3 : 3 ≤ agN l i
      · rw [if_pos (ha.1.2 h3), if_pos h3, ha.2 h3]
        simp [bitsI, capI, leastI]
        omega
      · rw [if_neg (fun h => h3 (ha.1.1 h)), if_neg h3]
theorem ofGo_ref (l : List Int) (i f j : Nat) (s : St) (hS : nextS (l.drop i) (prevL l i) = (s, (j : Int) + 1)) (hj : i + j < l.length) : ofGo (f + 1) (l.drop i) (prevL l i) = s :: ofGo f (l.drop (i + (j + 1))) (prevL l (i + (j + 1))) := by
  have hj1 : ((j : Int) + 1).toNat = j + 1 := by omega
  rw [ofGo, if_neg (by rw [List.length_drop]; omega), hS]
  simp only [hj1, List.drop_drop, Nat.add_sub_cancel]
  congr 1
  unfold prevL
  rw [if_neg (by omega)]
  congr 1
  rw [List.getD_eq_getElem?_getD, List.getD_eq_getElem?_getD, List.getElem?_drop]
  congr 2
theorem info_s : (Try.prog.info? 55).map (fun i => (i.zero, i.size, i.bytes)) = some (some (.agg #[.int .i64 0, .int .i64 0, .int .i64 0]), 3, 24) := by kernel_rfl
def RefOfPost (l : List Int) (w : World) (e : Ending) (w' : World) : Prop := ∃ v, e = .returned v ∧ (goodB l = true → w'.ownsRow w.heap.size 55 3 v (ofR l).length (rowS (ofR l))) ∧ Below w.heap.size w w'
set_option maxRecDepth 100000 in
set_option maxHeartbeats 8000000 in
theorem refOf_any (w : World) (A : Option Addr) (n c : Nat) (l : List Int) (hl : l.length = n) (hnc : n ≤ c) (hc : c ≤ maxLen) (hsl : SlOf w 1 intE A l) :
    Calls Try.prog 32 #[.slice A n c] w (RefOfPost l w) := by
  have hmm := hc
  unfold maxLen at hmm
  have HS := Lib.hid hsl; clear hsl
  have HL := Lib.hid hl
  clear hl
  go_enter Try.func32, Try.ntmps32
  go_wp2_with fail
  go_loopw [2, 3, 4] (fun o out t wr => ∃ (i : Nat) (outs : List St) (f : Nat), o = .slice none 0 0 ∧ i ≤ n ∧ t = .int .i64 i ∧ n - i ≤ f ∧ (n ≤ 400 → outs ++ ofGo f (l.drop i) (prevL l i) = ofL l ∧ outs.length + n ≤ 400 + i) ∧ (400 < n → outs = []) ∧ wr.ownsRow w.heap.size 55 3 out outs.length (rowS outs) ∧ Below w.heap.size w wr) (fun _ _ t _ => n - (intOf t).toNat)
  case atStart => exact ⟨0, [], n, rfl, Nat.zero_le _, rfl, by omega, fun h => ⟨by have := HL.out; subst this; rfl, by simp; omega⟩, fun _ => rfl, ⟨rfl, .inl ⟨rfl, rfl⟩⟩, Below.refl _ _⟩
  case round =>
    obtain ⟨i, outs, f, rfl, hi, rfl, hf, heq, hnil, hown, hbw⟩ := hrel
    by_cases hin : i < n
    · by_cases h4 : n ≤ 400
      · obtain ⟨heq, hlen⟩ := heq h4
        have h4b : decide ((n : Int) ≤ 400) = true := by simp; omega
        have hil : i < l.length := by have := HL.out; omega
        obtain ⟨b, off, rfl, hbb, hcs⟩ := HS.out (by omega)
        have hcell : ∀ k (hk : k < l.length), wr.cell? ⟨b, off + k, none⟩ = some (.int .i64 (l.getD k 0)) := fun k hk => by
          have h := hcs k hk 0 (by omega)
          simp [intE] at h
          rw [hbw.cell (p := ⟨b, off + k, none⟩) hbb, h, List.getD_eq_getElem?_getD, List.getElem?_eq_getElem hk]
          rfl
        have HCELL := Lib.hid hcell; clear hcell hcs
        have hx := HCELL.out i hil
        have hxg : l.getD i 0 = l[i] := by simp [List.getD_eq_getElem?_getD, List.getElem?_eq_getElem hil]
        have HEQ := Lib.hid heq; clear heq hnil
        have HOWN := Lib.hid hown; clear hown
        have HXG := Lib.hid hxg; clear hxg
        by_cases hbad : l.getD i 0 < 0 ∨ 15 < l.getD i 0
        · have hfin : RefOfPost l w (.returned (.slice none 0 0)) wr := ⟨_, rfl, fun hg => absurd (goodB_at hg i hil) (by rw [← HXG.out]; omega), hbw⟩
          have HFIN := Lib.hid hfin; clear hfin
          generalize l.getD i 0 = x at *
          by_cases hx0 : x < 0
          · clear hbad
            go_wp2_with fail
            go_ret
            exact HFIN.out
          · have hx1 : 15 < x := by omega
            clear hbad
            go_wp2_with fail
            go_ret
            exact HFIN.out
        · have hx0 : ¬ l.getD i 0 < 0 := by omega
          have hx1 : ¬ 15 < l.getD i 0 := by omega
          clear hbad
          generalize hxv : l.getD i 0 = x at *
          have HXV := Lib.hid hxv; clear hxv
          go_upto_block 2 with fail
          go_cut [5] from 30 to 50 (fun z wx => z = .int .i64 (min (cntRun 0 (l.drop i)) 138 : Nat) ∧ wx = wr)
          case first =>
            clear hx
            go_wp2_with fail
            go_loop [5] (fun z => ∃ k : Nat, z = .int .i64 k ∧ k ≤ 138 ∧ i + k ≤ n ∧ cntRun 0 (l.drop i) = k + cntRun 0 (l.drop (i + k))) (fun z => 138 - (intOf z).toNat)
            case atStart => exact ⟨0, rfl, by omega, by omega, by simp⟩
            case round =>
              obtain ⟨k, rfl, hk, hik, hcn⟩ := hrel
              by_cases hlt : i + k < n
              · have hkl : i + k < l.length := by have := HL.out; omega
                have hcd := cntRun_drop 0 l (i + k) hkl
                have hck := HCELL.out (i + k) hkl
                have hg : l[i + k] = l.getD (i + k) 0 := by simp [List.getD_eq_getElem?_getD, List.getElem?_eq_getElem hkl]
                rw [hg] at hcd
                clear hg
                generalize l.getD (i + k) 0 = y at *
                by_cases hy : y = 0
                · rw [if_pos hy] at hcd
                  subst hy
                  by_cases hk2 : k = 138
                  · have hm : min (cntRun 0 (l.drop i)) 138 = k := by omega
                    have HM := Lib.hid hm; clear hm hcd hcn
                    subst hk2
                    go_wp2_with fail
                    go_meet
                    exact ⟨by rw [HM.out]; rfl, rfl⟩
                  · have hk3 : k < 138 := by omega
                    have hn2 : cntRun 0 (l.drop i) = (k + 1) + cntRun 0 (l.drop (i + (k + 1))) := by
                      rw [← Nat.add_assoc i]; omega
                    have HN := Lib.hid hn2; clear hn2 hcd hcn hk2
                    go_wp2_with fail
                    exact ⟨⟨k + 1, by go_num, by omega, by omega, HN.out⟩, by simp [intOf]; omega⟩
                · rw [if_neg hy] at hcd
                  have ht : (y == 0) = false := by rw [beq_eq_false_iff_ne]; exact hy
                  have hm : min (cntRun 0 (l.drop i)) 138 = k := by omega
                  have HM := Lib.hid hm; clear hm hcd hcn hy
                  go_wp2_with fail
                  go_meet
                  exact ⟨by rw [HM.out], rfl⟩
              · have hd : l.drop (i + k) = [] := List.drop_of_length_le (by have := HL.out; omega)
                rw [hd] at hcn
                have hm : min (cntRun 0 (l.drop i)) 138 = k := by rw [hcn]; simp [cntRun]; omega
                have hge : ¬ (i : Int) + k < n := by omega
                have HM := Lib.hid hm; clear hm hd hcn
                go_wp2_with fail
                go_meet
                exact ⟨by rw [HM.out], rfl⟩
          case rest =>
            obtain ⟨rfl, rfl⟩ := hcut
            obtain ⟨z, hz⟩ : ∃ z : Nat, z = min (cntRun 0 (l.drop i)) 138 := ⟨_, rfl⟩
            rw [← hz]
            have HZ := Lib.hid hz; clear hz
            go_upto_block 4 with fail
            go_cut [6] from 51 to 80 (fun g wx => g = .int .i64 (agN l i : Nat) ∧ ∃ m, wx = wc.drewN m)
            case first =>
              clear hx
              go_wp2_with fail
              by_cases hi0 : i = 0
              · subst hi0
                have hag : agN l 0 = 0 := by simp [agN]
                have HAG := Lib.hid hag; clear hag
                go_loopw [6] (fun g wx => g = .int .i64 0 ∧ wx = wc) (fun g wx => 1)
                case atStart => exact ⟨rfl, rfl⟩
                case round =>
                  obtain ⟨rfl, rfl⟩ := hrel
                  go_wp2_with fail
                  go_quiet (fail)
                  go_wp2_with fail
                  go_meet
                  exact ⟨by rw [HAG.out]; rfl, _, rfl⟩
              · have hag : agN l i = min (cntRun (l.getD (i - 1) 0) (l.drop i)) 6 := by unfold agN; rw [if_neg hi0]
                have hiq : (i : Int) - 1 = ((i - 1 : Nat) : Int) := by omega
                have hcq := HCELL.out (i - 1) (by omega)
                generalize l.getD (i - 1) 0 = p at *
                have hq1 : i - 1 < n := by omega
                generalize i - 1 = q at *
                have HAG := Lib.hid hag; clear hag
                have HIQ := Lib.hid hiq; clear hiq
                go_loopw [6] (fun g wx => ∃ (k m : Nat), g = .int .i64 k ∧ k ≤ 6 ∧ i + k ≤ n ∧ cntRun p (l.drop i) = k + cntRun p (l.drop (i + k)) ∧ wx = wc.drewN m) (fun g wx => 6 - (intOf g).toNat)
                case atStart => exact ⟨0, 0, rfl, by omega, by omega, by simp, rfl⟩
                case round =>
                  obtain ⟨k, m, rfl, hk, hik, hcn, rfl⟩ := hrel
                  have hi1 : decide (0 < i) = true := by simp; omega
                  have hi2 : 0 < i := by omega
                  have hs1 : IntKind.i64.wrap ((i : Int) + k) = i + k := IntWalk.i64_in _ (by omega)
                  have hs2 : IntKind.i64.wrap ((i : Int) - 1) = q := by rw [HIQ.out]; exact IntWalk.i64_in _ (by omega)
                  by_cases hlt : i + k < n
                  · have hkl : i + k < l.length := by have := HL.out; omega
                    have hcd := cntRun_drop p l (i + k) hkl
                    have hck := HCELL.out (i + k) hkl
                    have hg : l[i + k] = l.getD (i + k) 0 := by simp [List.getD_eq_getElem?_getD, List.getElem?_eq_getElem hkl]
                    rw [hg] at hcd
                    clear hg
                    have hlb : decide ((i : Int) + k < n) = true := by simp; omega
                    have hp0 : (0 : Int) ≤ (i : Int) + k := by omega
                    have hp1 : (i : Int) + k < n := by omega
                    have hp2 : ((i : Int) + k).toNat = i + k := by omega
                    generalize l.getD (i + k) 0 = y at *
                    by_cases hy : y = p
                    · rw [if_pos hy] at hcd
                      have hyb : (y == p) = true := by rw [beq_iff_eq]; exact hy
                      by_cases hk2 : k = 6
                      · have hm : min (cntRun p (l.drop i)) 6 = 6 := by omega
                        have HM := Lib.hid hm; clear hm hcd hcn hy
                        have hlb : decide ((k : Int) < 6) = false := by simp; omega
                        have HK := Lib.hid hk2; clear hk2
                        go_wp2_with fail
                        go_quiet (fail)
                        go_wp2_with fail
                        go_meet
                        exact ⟨by rw [HAG.out, HM.out, HK.out], m + nq, by rw [World.drewN_drewN]⟩
                      · have hk3 : k < 6 := by omega
                        have hlb : decide ((k : Int) < 6) = true := by simp; omega
                        have hn2 : cntRun p (l.drop i) = (k + 1) + cntRun p (l.drop (i + (k + 1))) := by
                          rw [← Nat.add_assoc i]; omega
                        have HN := Lib.hid hn2; clear hn2 hcd hcn hk2 hy
                        go_wp2_with fail
                        go_quiet (fail)
                        go_wp2_with fail
                        exact ⟨⟨k + 1, _, by go_num, by omega, by omega, HN.out, rfl⟩, by simp [intOf]; omega⟩
                    · rw [if_neg hy] at hcd
                      have hyb : (y == p) = false := by rw [beq_eq_false_iff_ne]; exact hy
                      have hm : min (cntRun p (l.drop i)) 6 = k := by omega
                      have HM := Lib.hid hm; clear hm hcd hcn hy
                      go_wp2_with fail
                      go_quiet (fail)
                      go_wp2_with fail
                      go_meet
                      exact ⟨by rw [HAG.out, HM.out], m + nq, by rw [World.drewN_drewN]⟩
                  · have hd : l.drop (i + k) = [] := List.drop_of_length_le (by have := HL.out; omega)
                    rw [hd] at hcn
                    have hm : min (cntRun p (l.drop i)) 6 = k := by rw [hcn]; simp [cntRun]; omega
                    have hlb : decide ((i : Int) + k < n) = false := by simp; omega
                    have HM := Lib.hid hm; clear hm hd hcn
                    go_wp2_with fail
                    go_quiet (fail)
                    go_wp2_with fail
                    go_meet
                    exact ⟨by rw [HAG.out, HM.out], m + nq, by rw [World.drewN_drewN]⟩
            case rest =>
              obtain ⟨rfl, m, rfl⟩ := hcut
              obtain ⟨g, hg⟩ : ∃ g : Nat, g = agN l i := ⟨_, rfl⟩
              rw [← hg]
              have HGE := Lib.hid hg; clear hg
              have hx2 : (wc.drewN m).cell? ⟨b, off + i, none⟩ = some (.int .i64 x) := hx
              have hbw2 := below_drewN hbw m
              have HOWN2 : Hid ((wc.drewN m).ownsRow w.heap.size 55 3 u3 outs.length (rowS outs)) := HOWN.out
              clear hx hbw HOWN HCELL
              generalize wc.drewN m = w2 at *
              have hnb : b ≠ w2.heap.size := by have := hbw2.size; omega
              have hst := nextS_ref l i hil (by rw [HXV.out]; omega)
              rw [← HZ.out, ← HGE.out, HXV.out] at hst
              have hp := nextS_props (l.drop i) (prevL l i) (by rw [List.length_drop]; omega)
              rw [List.length_drop] at hp
              have hOG := ofGo_ref l i (f - 1)
              rw [show f - 1 + 1 = f by omega] at hOG
              generalize nextS (l.drop i) (prevL l i) = S at *
              obtain ⟨⟨sa, sb, sc⟩, sd⟩ := S
              simp only at hp
              obtain ⟨j, hsd⟩ : ∃ j : Nat, sd = (j : Int) + 1 := ⟨(sd - 1).toNat, by omega⟩
              have hij : i + j < n := by have := HL.out; omega
              have hog := hOG j ⟨sa, sb, sc⟩ (by rw [hsd]) (by have := HL.out; omega)
              have heq := HEQ.out
              rw [hog] at heq
              have HEQ2 := Lib.hid heq; clear heq HEQ hog hOG hp
              have HSD := Lib.hid hsd; clear hsd
              unfold refS at hst
              have HST := Lib.hid hst; clear hst
              have hz138 : z ≤ 138 := by have := HZ.out; omega
              have hg6 : g ≤ 6 := by have := HGE.out; unfold agN at this; split at this <;> omega
              go_upto_if 87 with fail
              go_cut [8] from 87 to 103 (fun s wx => s = .int .i64 sd ∧ Blk wx w2.heap.size 55 #[.int .i64 sa, .int .i64 sb, .int .i64 sc] ∧ Below w2.heap.size w2 wx)
              case first =>
                have hB := fun a b c => Blk.new w2 55 #[.int .i64 a, .int .i64 b, .int .i64 c]
                have hBel := fun a b c => (Below.refl w2.heap.size w2).alloc (Nat.le_refl _) (Obj.cells #[.int .i64 a, .int .i64 b, .int .i64 c] 55)
                by_cases hz11 : 11 ≤ z
                · have he := HST.out
                  rw [if_pos hz11] at he
                  simp only [Prod.mk.injEq, St.mk.injEq] at he
                  obtain ⟨⟨rfl, rfl, rfl⟩, rfl⟩ := he
                  go_wp2_with fail
                  go_meet
                  exact ⟨rfl, hB _ _ _, hBel _ _ _⟩
                · by_cases hz3 : 3 ≤ z
                  · have he := HST.out
                    rw [if_neg hz11, if_pos hz3] at he
                    simp only [Prod.mk.injEq, St.mk.injEq] at he
                    obtain ⟨⟨rfl, rfl, rfl⟩, rfl⟩ := he
                    go_wp2_with fail
                    go_meet
                    exact ⟨rfl, hB _ _ _, hBel _ _ _⟩
                  · by_cases hg3 : 3 ≤ g
                    · have he := HST.out
                      rw [if_neg hz11, if_neg hz3, if_pos hg3] at he
                      simp only [Prod.mk.injEq, St.mk.injEq] at he
                      obtain ⟨⟨rfl, rfl, rfl⟩, rfl⟩ := he
                      go_wp2_with fail
                      go_meet
                      exact ⟨rfl, hB _ _ _, hBel _ _ _⟩
                    · have he := HST.out
                      rw [if_neg hz11, if_neg hz3, if_neg hg3] at he
                      simp only [Prod.mk.injEq, St.mk.injEq] at he
                      obtain ⟨⟨rfl, rfl, rfl⟩, rfl⟩ := he
                      go_wp2_with fail
                      go_meet
                      exact ⟨rfl, hB _ _ _, hBel _ _ _⟩
              case rest =>
                obtain ⟨rfl, hB, hbS⟩ := hcut
                have hbw3 := hbw2.trans (hbS.mono hbw2.size)
                have HOWN3 := Lib.hid (own_kept HOWN2.out hbS)
                have g0 := hB.cell 0
                have g1 := hB.cell 1
                have g2 := hB.cell 2
                simp at g0 g1 g2
                have hsd := HSD.out
                subst hsd
                clear HSD HST HZ HGE hB
                go_wp2_with (refine wpList_app rfl _ _ 51 rfl w.heap.size 55 (.agg #[.int .i64 0, .int .i64 0, .int .i64 0]) 3 24 Try.underlying51 info_s rfl (by omega) u3 outs.length (rowS outs) (by simp [Act.eval, Act.put]) (own_kept HOWN3.out ((Below.refl _ _).alloc (Nat.le_refl _) _)) wc.heap.size 1 _ _ (by simp [Act.eval, Act.put]) (Blk.new _ _ _) rfl (by simp [Value.oneCell']) (by omega) (by omega) (by have := hbw3.size; simp; omega) _ rfl ?_; intro g2 cap2 w5 ho2 hg2 hat2 hlt2)
                have hw5 : Below w.heap.size w w5 := own_below HOWN3.out (hbw3.alloc hbw3.size (Obj.cells #[.int .i64 sa, .int .i64 sb, .int .i64 sc] 55)) hg2 (Nat.le_refl _) (by have := hbw3.size; simp; omega)
                go_roundw
                case rel =>
                  refine ⟨i + (j + 1), outs ++ [⟨sa, sb, sc⟩], f - 1, rfl, by omega, by go_num, by omega, fun _ => ⟨?_, ?_⟩, fun h => by omega, ?_, hw5⟩
                  · rw [List.append_assoc]; exact HEQ2.out
                  · rw [List.length_append, List.length_singleton]; omega
                  · rw [rowS_snoc, List.length_append]; exact ho2
                case measure =>
                  simp [intOf]; omega
      · have ho : outs = [] := hnil (by omega)
        have hfin : RefOfPost l w (.returned u3) wr := ⟨_, rfl, fun _ => by
          unfold ofR; rw [if_neg (by rw [HL.out]; omega)]; rw [ho] at hown; exact hown, hbw⟩
        have HFIN := Lib.hid hfin; clear hfin hown heq ho hnil
        have h4b : decide ((n : Int) ≤ 400) = false := by simp; omega
        go_wp2_with fail
        go_ret
        exact HFIN.out
    · have hin2 : i = n := by omega
      have hfin : RefOfPost l w (.returned u3) wr := ⟨_, rfl, fun hg => by
        by_cases h4 : n ≤ 400
        · have h := (heq h4).1
          rw [List.drop_of_length_le (by rw [HL.out]; omega), ofGo_nil, List.append_nil] at h
          unfold ofR
          rw [if_pos ⟨hg, by rw [HL.out]; omega⟩, ← h]
          exact hown
        · unfold ofR; rw [if_neg (by rw [HL.out]; omega)]
          have ho := hnil (by omega)
          rw [ho] at hown
          exact hown, hbw⟩
      have HFIN := Lib.hid hfin; clear hfin hown heq hnil
      subst hin2
      go_wp2_with fail
      go_ret
      exact HFIN.out
end Go.Proofs.Ythmlfeaoaanmoaa
