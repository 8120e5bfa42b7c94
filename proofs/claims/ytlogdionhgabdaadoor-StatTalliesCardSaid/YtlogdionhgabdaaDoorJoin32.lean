/- Several texts, joined for the limit of sixty files; each one opens with its own comment. -/
import Derived.Test.YtlogdionhgabdaaDoorJoin29
/- Contracts of the reference of stat: Add, Same. -/
set_option linter.unusedVariables false
set_option linter.unusedSimpArgs false
namespace Sw
open Go
abbrev En := Int × Int
/-- the reference's Add where the number may be -/
def addR (k n : Int) : List En → List En
  | [] => [(k, n)]
  | e :: l => if k ≤ e.1 then (if e.1 = k then (e.1, e.2 + n) :: l else (k, n) :: e :: l) else e :: addR k n l
def refAddL (k n : Int) (l : List En) : List En := if n < 1 ∨ 1000000000 < n then l else addR k n l
theorem addR_eq (k n : Int) : ∀ l : List En, addR k n l = putN ordI k ((getN ordI k l).getD 0 + n) l
  | [] => by simp [addR, putN, getN]
  | e :: l => by
    unfold addR putN getN
    by_cases h1 : k ≤ e.1
    · have h2 : ¬ ordI e.1 k < 0 := by rw [ordI_lt]; omega
      rw [if_pos h1, if_neg h2, if_neg h2]
      by_cases h3 : e.1 = k
      · have h4 : ordI e.1 k = 0 := (ordI_ord.iff _ _).2 h3
        rw [if_pos h3, if_pos h4, if_pos h4]
        simp [h3]
      · have h4 : ¬ ordI e.1 k = 0 := fun h => h3 ((ordI_ord.iff _ _).1 h)
        rw [if_neg h3, if_neg h4, if_neg h4]
        simp
    · have h2 : ordI e.1 k < 0 := by rw [ordI_lt]; omega
      rw [if_neg h1, if_pos h2, if_pos h2, addR_eq k n l]
end Sw
namespace Go.Proofs.YtlogdionhgabdaaDoor
open Go Go.RowKit
open Sw
theorem refAdd_eq (k n : Int) (l : List En) : refAddL k n l = addN k n l := by
  unfold refAddL addN
  rw [addR_eq]
theorem infoE39 : (Tryd.prog.info? 29).map (fun i => (i.zero, i.size, i.bytes)) = some (some (.agg #[.int .i64 0, .int .i64 0]), 2, 16) := by kernel_rfl
/-- a row of the reference's that the call owns -/
def Own39 (w : World) (base : Nat) (u : Value) (l : List En) : Prop := w.ownsRow base 29 2 u l.length (l.flatMap eCII)
theorem Own39.app {w1 : World} {base g cap n : Nat} {l : List En} {x : En} (h : w1.ownsRow base 29 2 (.slice (some ⟨g, 0, none⟩) (n + 1) cap) (n + 1) (l.flatMap eCII ++ [.int .i64 x.1, .int .i64 x.2])) (hn : l.length = n) : Own39 w1 base (.slice (some ⟨g, 0, none⟩) (n + 1) cap) (l ++ [x]) := by
  unfold Own39
  rw [List.length_append, List.length_singleton, hn, List.flatMap_append]
  simpa [eCII] using h
set_option maxRecDepth 100000 in
set_option maxHeartbeats 8000000 in
theorem ref39Add_any (w : World) (u : Value) (l : List En) (k nn : Int) (h : SlV w 2 eCII u l) (hl : l.length ≤ 1000) (hv : ∀ e ∈ l, 0 ≤ e.2 ∧ e.2 ≤ 1000000000000) :
    Calls Tryd.prog 8 #[u, .int .i64 k, .int .i64 nn] w fun e w' => ∃ r, e = .returned r ∧ Own39 w' w.heap.size r (refAddL k nn l) ∧ Below w.heap.size w w' := by
  obtain ⟨A, c, rfl, hc1, hc2, hsl⟩ := h
  obtain ⟨n, hn⟩ : ∃ n, l.length = n := ⟨_, rfl⟩
  rw [hn] at hc1 hl ⊢
  unfold maxLen at hc2
  have HL := Lib.hid hn; clear hn
  have HS := Lib.hid hsl; clear hsl
  have HV := Lib.hid hv; clear hv
  obtain ⟨bad, hbad⟩ : ∃ bad : Bool, decide (nn < 1 ∨ 1000000000 < nn) = bad := ⟨_, rfl⟩
  have HR := Lib.hid (show (if bad = true then l else addR k nn l) = refAddL k nn l from by unfold refAddL; rw [← hbad]; simp)
  have hnn : bad = false → 1 ≤ nn ∧ nn ≤ 1000000000 := fun h => by rw [h] at hbad; simp at hbad; omega
  have HNN := Lib.hid hnn; clear hnn
  generalize refAddL k nn l = R at *
  have HBD := Lib.hid hbad; clear hbad
  go_enter Tryd.func8, Tryd.ntmps8
  go_upto_region 2 with fail
  go_cut [8] from 11 to 16 (fun d wx => d = .bool bad ∧ wx = w)
  case first =>
    by_cases t1 : nn < 1
    · have HV := Lib.hid (show bad = true by rw [← HBD.out]; simp; omega)
      go_wp2_with fail
      go_meet
      exact ⟨by rw [HV.out], rfl⟩
    · by_cases t2 : 1000000000 < nn
      · have HV := Lib.hid (show bad = true by rw [← HBD.out]; simp; omega)
        go_wp2_with fail
        go_meet
        exact ⟨by rw [HV.out], rfl⟩
      · have HV := Lib.hid (show bad = false by rw [← HBD.out]; simp; omega)
        go_wp2_with fail
        go_meet
        exact ⟨by rw [HV.out], rfl⟩
  case rest =>
  obtain ⟨rfl, rfl⟩ := And.intro hcut.1 hcut.2.symm
  go_wp2_with fail
  go_loopw [7, 8, 19] (fun o dv iv wr => ∃ (i : Nat) (d : Bool) (L : List En), i ≤ n ∧ iv = .int .i64 i ∧ dv = .bool d ∧ (bad = true → d = true) ∧ (if d = true then L ++ l.drop i else L ++ addR k nn (l.drop i)) = R ∧ L.length ≤ i + 1 ∧ (d = false → L.length ≤ i) ∧ Own39 wr w.heap.size o L ∧ Below w.heap.size w wr) (fun _ _ iv _ => n - (intOf iv).toNat)
  case atStart => exact ⟨0, bad, [], Nat.zero_le _, rfl, rfl, id, by simpa using HR.out, by simp, fun _ => by simp, World.ownsRow_nil _ _ _ _, Below.refl _ _⟩
  case round =>
    obtain ⟨i, d, L, hi, rfl, rfl, hbd, hLR, hLl, hLf, ho, hb⟩ := hrel
    have hbs := hb.size
    have HLR := Lib.hid hLR; clear hLR
    have HBR := Lib.hid hbd; clear hbd
    by_cases hlt : i < n
    · have hiL : i < l.length := by have := HL.out; omega
      obtain ⟨b, off, rfl, hbb, hcs⟩ := (HS.out.below hb (Nat.le_refl _)) (by omega)
      have c0 := hcs i hiL 0 (by omega)
      have c1 := hcs i hiL 1 (by omega)
      simp only [eCII, List.getElem?_cons_succ, List.getElem?_cons_zero, Nat.add_zero] at c0 c1
      clear hcs
      have hi1 : (i : Int) < n := by omega
      have hdr : l.drop i = l[i] :: l.drop (i + 1) := List.drop_eq_getElem_cons hiL
      have hvx := HV.out l[i] (List.getElem_mem hiL)
      obtain ⟨x, hx⟩ : ∃ x, l[i] = x := ⟨_, rfl⟩
      simp only [hx] at c0 c1 hdr hvx
      rw [hdr] at HLR
      clear hx hdr
      obtain ⟨rs, hrs⟩ : ∃ rs, l.drop (i + 1) = rs := ⟨_, rfl⟩
      rw [hrs] at HLR
      have HRS := Lib.hid hrs; clear hrs
      obtain ⟨A3, c3, rfl, _, _, _⟩ := SlV_of_any ho
      have HO := Lib.hid ho
      have HB := Lib.hid hb
      clear ho hb
      obtain ⟨m, hm⟩ : ∃ m, L.length = m := ⟨_, rfl⟩
      unfold Own39 at HO
      rw [hm] at HO hLl hLf ⊢
      have hm2 : m ≤ 1001 := by omega
      have HLF := Lib.hid hLf; clear hLf
      have HM := Lib.hid hm; clear hm
      cases d with
      | true =>
        have HF := Lib.hid (show L ++ [x] ++ rs = R by have := HLR.out; simpa using this)
        clear HLR
        go_wp2_with (at_builtin; refine wpList_app rfl _ _ 22 rfl w.heap.size 29 (.agg #[.int .i64 0, .int .i64 0]) 2 16 Tryd.underlying22 infoE39 rfl (by decide) _ m _ rfl ((HO.out.alloc _).alloc _) (wr.heap.size + 1) 1 #[.int .i64 x.1, .int .i64 x.2] 29 rfl (blk_snd _ _ _ _) rfl (by simp [Value.oneCell']) (by omega) (by decide) (by simp; omega) _ rfl ?_; intro g cap w1 hown1 hgrow1 hat hlt1)
        have HN := Lib.hid (And.intro (Own39.app (x := x) hown1 HM.out) (own_below HO.out ((HB.out.alloc HB.out.size _).alloc (by simp; omega) _) hgrow1 (Nat.le_refl _) (by simp; omega)))
        clear hown1 hgrow1 hat hlt1
        go_wp2_with fail
        go_roundw
        case rel => exact ⟨i + 1, true, L ++ [x], by omega, by go_num, rfl, fun _ => rfl, by rw [if_pos rfl, HRS.out]; exact HF.out, by rw [List.length_append, HM.out, List.length_singleton]; omega, (fun h => Bool.noConfusion h), HN.out.1, HN.out.2⟩
        case measure => simp [intOf]; omega
      | false =>
        have hn3 : 1 ≤ nn ∧ nn ≤ 1000000000 := by
          cases bad with
          | true => exact absurd (HBR.out rfl) (by simp)
          | false => exact HNN.out rfl
        by_cases hge : k ≤ x.1
        · by_cases hk : x.1 = k
          · have hkb : (x.1 == k) = true := by rw [beq_iff_eq]; exact hk
            have HF := Lib.hid (show L ++ [(x.1, x.2 + nn)] ++ rs = R by
              have := HLR.out
              unfold addR at this
              rw [if_neg (by simp), if_pos hge, if_pos hk] at this
              simpa using this)
            have hwr : IntKind.i64.wrap (x.2 + nn) = x.2 + nn := IntWalk.i64_in _ (by omega)
            clear HLR hk
            go_wp2_with (at_builtin; refine wpList_app rfl _ _ 22 rfl w.heap.size 29 (.agg #[.int .i64 0, .int .i64 0]) 2 16 Tryd.underlying22 infoE39 rfl (by decide) _ m _ rfl ((HO.out.alloc _).alloc _) (wr.heap.size + 1) 1 #[.int .i64 x.1, .int .i64 (x.2 + nn)] 29 rfl (blk_snd _ _ _ _) rfl (by simp [Value.oneCell']) (by omega) (by decide) (by simp; omega) _ rfl ?_; intro g cap w1 hown1 hgrow1 hat hlt1)
            have HN := Lib.hid (And.intro (Own39.app (x := (x.1, x.2 + nn)) hown1 HM.out) (own_below HO.out ((HB.out.alloc HB.out.size _).alloc (by simp; omega) _) hgrow1 (Nat.le_refl _) (by simp; omega)))
            clear hown1 hgrow1 hat hlt1
            go_wp2_with fail
            go_roundw
            case rel => exact ⟨i + 1, true, L ++ [(x.1, x.2 + nn)], by omega, by go_num, rfl, fun _ => rfl, by rw [if_pos rfl, HRS.out]; exact HF.out, by rw [List.length_append, HM.out, List.length_singleton]; omega, (fun h => Bool.noConfusion h), HN.out.1, HN.out.2⟩
            case measure => simp [intOf]; omega
          · have hkb : (x.1 == k) = false := by rw [beq_eq_false_iff_ne]; exact hk
            have HF := Lib.hid (show L ++ [(k, nn)] ++ [x] ++ rs = R by
              have := HLR.out
              unfold addR at this
              rw [if_neg (by simp), if_pos hge, if_neg hk] at this
              simpa using this)
            clear HLR hk
            go_wp2_with (first | (at_builtin; refine wpList_app rfl _ _ 22 rfl w.heap.size 29 (.agg #[.int .i64 0, .int .i64 0]) 2 16 Tryd.underlying22 infoE39 rfl (by decide) _ m _ rfl ((HO.out.alloc _).alloc _) (wr.heap.size + 1) 1 #[.int .i64 k, .int .i64 nn] 29 rfl (blk_snd _ _ _ _) rfl (by simp [Value.oneCell']) (by omega) (by decide) (by simp; omega) _ rfl ?_; intro g cap w1 hown1 hgrow1 hat hlt1; have hbx := (blk_fst wr #[.int .i64 x.1, .int .i64 x.2] 29 (.cells #[.int .i64 k, .int .i64 nn] 29)).grown hgrow1 (fun e => own_ne HO.out wr.heap.size (Nat.le_refl _) e.symm); have e0 := hbx.cell 0; have e1 := hbx.cell 1; simp at e0 e1; have hw1s : w.heap.size ≤ w1.heap.size := by have := hgrow1.size; simp at this; omega) | (at_builtin; refine wpList_app rfl _ _ 22 rfl w.heap.size 29 (.agg #[.int .i64 0, .int .i64 0]) 2 16 Tryd.underlying22 infoE39 rfl (by decide) _ (m + 1) _ rfl (hown1.alloc _) w1.heap.size 1 #[.int .i64 x.1, .int .i64 x.2] 29 rfl (Blk.new _ _ _) rfl (by simp [Value.oneCell']) (by omega) (by decide) (by simp; omega) _ rfl ?_; intro g2 cap2 w2 hown2 hgrow2 hat2 hlt2))
            have HB1 := own_below HO.out ((HB.out.alloc HB.out.size _).alloc (by simp; omega) _) hgrow1 (Nat.le_refl _) (by simp; omega)
            have HN := Lib.hid (And.intro (Own39.app (l := L ++ [(k, nn)]) (x := x) (by simpa [eCII] using hown2) (by rw [List.length_append, HM.out]; rfl)) (own_below hown1 (HB1.alloc HB1.size _) hgrow2 (Nat.le_refl _) (by simp; omega)))
            clear hown1 hgrow1 hat hlt1 hown2 hgrow2 hat2 hlt2 HB1 hbx
            go_wp2_with fail
            go_roundw
            case rel => exact ⟨i + 1, true, L ++ [(k, nn)] ++ [x], by omega, by go_num, rfl, fun _ => rfl, by rw [if_pos rfl, HRS.out]; exact HF.out, by rw [List.length_append, List.length_append, HM.out, List.length_singleton, List.length_singleton]; have := HLF.out rfl; omega, (fun h => Bool.noConfusion h), HN.out.1, HN.out.2⟩
            case measure => simp [intOf]; omega
        · have HF := Lib.hid (show L ++ [x] ++ addR k nn rs = R by
            have := HLR.out
            unfold addR at this
            rw [if_neg (by simp), if_neg hge] at this
            simpa using this)
          clear HLR
          go_wp2_with (at_builtin; refine wpList_app rfl _ _ 22 rfl w.heap.size 29 (.agg #[.int .i64 0, .int .i64 0]) 2 16 Tryd.underlying22 infoE39 rfl (by decide) _ m _ rfl ((HO.out.alloc _).alloc _) (wr.heap.size + 1) 1 #[.int .i64 x.1, .int .i64 x.2] 29 rfl (blk_snd _ _ _ _) rfl (by simp [Value.oneCell']) (by omega) (by decide) (by simp; omega) _ rfl ?_; intro g cap w1 hown1 hgrow1 hat hlt1)
          have HN := Lib.hid (And.intro (Own39.app (x := x) hown1 HM.out) (own_below HO.out ((HB.out.alloc HB.out.size _).alloc (by simp; omega) _) hgrow1 (Nat.le_refl _) (by simp; omega)))
          clear hown1 hgrow1 hat hlt1
          go_wp2_with fail
          go_roundw
          case rel => exact ⟨i + 1, false, L ++ [x], by omega, by go_num, rfl, HBR.out, by rw [if_neg (by simp), HRS.out]; exact HF.out, by rw [List.length_append, HM.out, List.length_singleton]; omega, fun _ => by rw [List.length_append, HM.out, List.length_singleton]; have := HLF.out rfl; omega, HN.out.1, HN.out.2⟩
          case measure => simp [intOf]; omega
    · obtain rfl : i = n := by omega
      have hf : l.drop i = [] := List.drop_of_length_le (by have := HL.out; omega)
      rw [hf] at HLR
      have HO := Lib.hid ho
      obtain ⟨A3, c3, rfl, _, _, _⟩ := SlV_of_any ho
      have HB := Lib.hid hb
      clear ho hf hb
      cases d with
      | true =>
        have HQ := Lib.hid (show L = R by simpa using HLR.out)
        clear HLR
        clear hLf
        generalize L.length = m at *
        go_wp2_with fail
        go_ret
        exact ⟨_, rfl, by rw [← HQ.out]; exact HO.out, HB.out⟩
      | false =>
        have HQ := Lib.hid (show L ++ [(k, nn)] = R by simpa [addR] using HLR.out)
        clear HLR
        obtain ⟨m, hm⟩ : ∃ m, L.length = m := ⟨_, rfl⟩
        unfold Own39 at HO
        rw [hm] at HO hLl hLf ⊢
        have hm2 : m ≤ 1001 := by omega
        clear hLf
        have HM := Lib.hid hm; clear hm
        go_wp2_with (at_builtin; refine wpList_app rfl _ _ 22 rfl w.heap.size 29 (.agg #[.int .i64 0, .int .i64 0]) 2 16 Tryd.underlying22 infoE39 rfl (by decide) _ m _ rfl (HO.out.alloc _) wr.heap.size 1 #[.int .i64 k, .int .i64 nn] 29 rfl (Blk.new _ _ _) rfl (by simp [Value.oneCell']) (by omega) (by decide) (by simp; omega) _ rfl ?_; intro g cap w1 hown1 hgrow1 hat hlt1)
        have HN := Lib.hid (And.intro (Own39.app (x := (k, nn)) hown1 HM.out) (own_below HO.out (HB.out.alloc HB.out.size _) hgrow1 (Nat.le_refl _) (by simp; omega)))
        clear hown1 hgrow1 hat hlt1
        go_wp2_with fail
        go_ret
        exact ⟨_, rfl, by rw [← HQ.out]; exact HN.out.1, HN.out.2⟩
set_option maxRecDepth 100000 in
set_option maxHeartbeats 4000000 in
theorem ref39Same_yes (w : World) (v1 v2 : Value) (l : List En) (h1 : SlV w 2 eCII v1 l) (h2 : SlV w 2 eCII v2 l) :
    Calls Tryd.prog 12 #[v1, v2] w fun e w' => e = .returned (.bool true) ∧ ∃ m, w' = w.drewN m := by
  obtain ⟨A1, c1, rfl, hc1, hc2, hsl1⟩ := h1
  obtain ⟨A2, c2, rfl, hc3, hc4, hsl2⟩ := h2
  obtain ⟨n, hn⟩ : ∃ n, l.length = n := ⟨_, rfl⟩
  rw [hn] at hc1 hc3 ⊢
  unfold maxLen at hc2 hc4
  have HL := Lib.hid hn; clear hn
  have HS1 := Lib.hid hsl1; clear hsl1
  have HS2 := Lib.hid hsl2; clear hsl2
  go_enter Tryd.func12, Tryd.ntmps12
  go_wp2_with fail
  go_loopw [4, 5, 13] (fun o _ t wr => ∃ i m : Nat, i ≤ n ∧ t = .int .i64 i ∧ o = .bool false ∧ wr = w.drewN m) (fun _ _ t _ => n - (intOf t).toNat)
  case atStart => exact ⟨0, 0, Nat.zero_le _, rfl, rfl, rfl⟩
  case round =>
    obtain ⟨i, m, hi, rfl, rfl, rfl⟩ := hrel
    by_cases hin : i < n
    · have hil : i < l.length := by have := HL.out; omega
      obtain ⟨b1, o1, rfl, hb1, hcs1⟩ := HS1.out (by omega)
      obtain ⟨b2, o2, rfl, hb2, hcs2⟩ := HS2.out (by omega)
      have d0 := hcs1 i hil 0 (by omega)
      have d1 := hcs1 i hil 1 (by omega)
      have d3 := hcs2 i hil 0 (by omega)
      have d4 := hcs2 i hil 1 (by omega)
      simp [eCII] at d0 d1 d3 d4
      clear hcs1 hcs2
      generalize l[i].1 = x0 at *
      generalize l[i].2 = x1 at *
      have hi0 : (0 : Int) ≤ i := by omega
      have hi1 : (i : Int) < n := by omega
      go_wp2_with fail
      go_quiet (fail)
      go_wp2_with fail
      go_roundw
      case rel => exact ⟨i + 1, _, by omega, by go_num, rfl, rfl⟩
      case measure => simp [intOf]; omega
    · obtain rfl : i = n := by omega
      clear HS1 HS2
      go_wp2_with fail
      go_ret
      exact ⟨rfl, _, rfl⟩
end Go.Proofs.YtlogdionhgabdaaDoor
