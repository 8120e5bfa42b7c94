/- The contract of the reference's Clean. -/
import Derived.Test.YtjglkbbhihlcgaaDoorNameClean
set_option linter.unusedVariables false
set_option linter.unusedSimpArgs false
namespace Sw
open Go Go.RowKit
theorem ix_mem (l : List UInt8) (c : UInt8) : decide (0 ≤ Lib.indexByte l c) = decide (c ∈ l) := by
  rw [decide_eq_decide]
  constructor
  · intro h
    obtain ⟨i, hi⟩ := Int.eq_ofNat_of_zero_le h
    obtain ⟨h1, _⟩ := Lib.indexByte_some hi
    exact List.mem_of_getElem? h1
  · intro h
    by_cases h0 : 0 ≤ Lib.indexByte l c
    · exact h0
    · have hge := Lib.indexByte_ge l c
      obtain ⟨k, hk, hke⟩ := List.getElem_of_mem h
      exact absurd (by rw [List.getElem?_eq_getElem hk, hke]) (Lib.indexByte_none (show Lib.indexByte l c = -1 by omega) k)
theorem pre_47 (l : List UInt8) : Lib.hasPrefix l [47] = decide (l.head? = some 47) := by
  cases l with
  | nil => rfl
  | cons a l =>
    show List.isPrefixOf [47] (a :: l) = _
    by_cases h : a = 47
    · subst h; simp [List.isPrefixOf]
    · rw [decide_eq_false (by simpa using h)]
      simp [List.isPrefixOf]
      exact fun e => h e.symm
theorem bad0_eq (s : ByteArray) : bad0 s = (decide (s.data.toList.head? = some 47) || decide ((0 : UInt8) ∈ s.data.toList)) := by
  unfold bad0
  rw [pre_47, ix_mem]
theorem clStep_no {l l' : List ByteArray} {x : ByteArray} (hl : ∀ y ∈ l, hasSl y = false) (hx : hasSl x = false) (h : clStep l x = some l') : ∀ y ∈ l', hasSl y = false := by
  unfold clStep at h
  split at h
  · injection h with h; subst h; exact hl
  · split at h
    · split at h
      · cases h
      · injection h with h; subst h; exact fun y hy => hl y (List.dropLast_subset l hy)
    · injection h with h; subst h
      intro y hy
      rcases List.mem_append.1 hy with h | h
      · exact hl y h
      · rw [List.mem_singleton] at h; rw [h]; exact hx
theorem clFold_no : ∀ (xs l l' : List ByteArray), (∀ y ∈ l, hasSl y = false) → (∀ y ∈ xs, hasSl y = false) → clFold l xs = some l' → ∀ y ∈ l', hasSl y = false
  | [], l, l', hl, _, h => by
    have h : some l = some l' := h
    injection h with h
    subst h
    exact hl
  | x :: xs, l, l', hl, hx, h => by
    have h' : (match clStep l x with | none => none | some l' => clFold l' xs) = some l' := h
    cases hs : clStep l x with
    | none => rw [hs] at h'; cases h'
    | some l2 =>
      rw [hs] at h'
      exact clFold_no xs l2 l' (clStep_no hl (hx x (by simp)) hs) (fun y hy => hx y (List.mem_cons_of_mem _ hy)) h'
theorem spS_no (s : ByteArray) : ∀ y ∈ spS s, hasSl y = false := by
  intro y hy
  unfold spS at hy
  obtain ⟨a, ha, rfl⟩ := List.mem_map.1 hy
  unfold hasSl
  rw [data_mkB]
  exact decide_eq_false (spL_no _ a ha)
theorem rightL_nil : rightL [] = false := by decide
/-- what comes of the parts that are left -/
theorem clean_some {s : ByteArray} {l : List ByteArray} (h : cleanO s = some l) : (rightL (jnL (datL l)) = true → l ≠ [] ∧ cleanS s = mkB (jnL (datL l)) ∧ cleanB s = true) ∧ (rightL (jnL (datL l)) = false → cleanS s = ⟨#[]⟩ ∧ cleanB s = false) := by
  have hno : l.any hasSl = false := by
    unfold cleanO at h
    split at h
    · cases h
    · rw [List.any_eq_false]
      intro y hy
      rw [clFold_no _ _ _ (by simp) (spS_no s) h y hy]
      simp
  have e1 : cleanS s = joinS l := by unfold cleanS; rw [h]
  have e2 : cleanB s = joinB l := by unfold cleanB; rw [h]
  rw [e1, e2]
  unfold joinS joinB
  rw [hno]
  refine ⟨fun hr => ⟨fun e => ?_, ?_, ?_⟩, fun hr => ⟨?_, ?_⟩⟩
  · subst e
    have : rightL (jnL (datL [])) = rightL [] := rfl
    rw [this, rightL_nil] at hr
    cases hr
  all_goals rw [hr]; rfl
end Sw
namespace Go.Proofs.YtjglkbbhihlcgaaDoor
open Go Go.RowKit
open Sw
set_option maxRecDepth 100000 in
set_option maxHeartbeats 4000000 in
theorem refClean_any (w : World) (s : ByteArray) (hs : s.size ≤ 90000) :
    Calls Tryd.prog 10 #[.string s] w fun e w' => e = .returned (.tuple #[.string (cleanS s), .bool (cleanB s)]) ∧ Below w.heap.size w w' := by
  obtain ⟨i0, hi, hz0, hz1, hz2⟩ := info_parts info_str
  have HSP := Lib.hid (fun W => refSplit_any W s (by omega))
  have hne := fun (h : cleanO s = none) => show cleanS s = ⟨#[]⟩ ∧ cleanB s = false from ⟨by unfold cleanS; rw [h], by unfold cleanB; rw [h]⟩
  have hsm := fun (l : List ByteArray) (h : cleanO s = some l) => clean_some h
  have hcl : cleanO s = if bad0 s = true then none else clFold [] (spS s) := rfl
  rw [bad0_eq] at hcl
  have hlen := spS_len s
  have hwt := spS_wt s
  have hpos : 0 < (spS s).length := List.length_pos_iff.2 (spS_ne s)
  have hsz2 := spS_size s
  have HX := Lib.hid (And.intro hne hsm); clear hne hsm
  have HCL := Lib.hid hcl; clear hcl
  generalize cleanS s = RS at *
  generalize cleanB s = RB at *
  generalize cleanO s = RO at *
  go_enter Tryd.func10, Tryd.ntmps10
  go_wp2_with fail
  go_loopw [2, 3, 5] (fun r1 r2 iv wr => ∃ i : Nat, i ≤ s.size ∧ r1 = .string ⟨#[]⟩ ∧ r2 = .bool false ∧ iv = .int .i64 i ∧ (∀ j (h : j < s.size), j < i → s[j] ≠ 0) ∧ w = wr) (fun _ _ iv _ => s.size - (intOf iv).toNat)
  case atStart => exact ⟨0, Nat.zero_le _, rfl, rfl, rfl, fun j h h' => by omega, rfl⟩
  case round =>
    obtain ⟨i, hi', rfl, rfl, rfl, hall, rfl⟩ := hrel
    by_cases hlt : i < s.size
    · by_cases h0 : s[i] = 0
      · have hm : (0 : UInt8) ∈ s.data.toList := by
          have : s.data.toList[i]'(by simpa using hlt) = 0 := h0
          rw [← this]
          exact List.getElem_mem _
        have HF := Lib.hid (HX.out.1 (by rw [HCL.out, decide_eq_true hm, Bool.or_true, if_pos rfl]))
        have hb : ((s[i].toNat : Int) == 0) = true := by rw [h0]; rfl
        clear h0 hm
        go_wp2_with fail
        go_ret2
        exact ⟨by rw [HF.out.1, HF.out.2]; first | done | rfl, Below.refl _ _⟩
      · have hb : ((s[i].toNat : Int) == 0) = false := by
          rw [beq_eq_false_iff_ne]
          intro e
          have h47 : s[i].toNat = 0 := by omega
          exact h0 (UInt8.toNat_inj.1 (h47.trans rfl))
        have HST := Lib.hid (show ∀ j (h : j < s.size), j < i + 1 → s[j] ≠ 0 from fun j h hj => by
          by_cases hji : j = i
          · subst hji; exact h0
          · exact hall j h (by omega))
        clear h0 hall
        go_wp2_with fail
        go_roundw
        case rel => exact ⟨i + 1, by omega, rfl, rfl, by go_num, HST.out, by simp⟩
        case measure => simp [intOf]; omega
    · obtain rfl : i = s.size := by omega
      have hn0 : (0 : UInt8) ∉ s.data.toList := fun hm => by
        obtain ⟨k, hk, hke⟩ := List.getElem_of_mem hm
        exact hall k (by simpa using hk) (by simpa using hk) hke
      clear hall hlt
      by_cases hsl : s.data.toList.head? = some 47
      · have hp : 0 < s.size := by
          cases hd : s.data.toList with
          | nil => rw [hd] at hsl; cases hsl
          | cons a t =>
            have : s.data.toList.length = s.size := by simp
            rw [hd, List.length_cons] at this
            omega
        have h47 : s[0] = 47 := by
          have h2 : s.data.toList.head? = some s[0] := by
            rw [List.head?_eq_getElem?, List.getElem?_eq_getElem (by simpa using hp)]
            rfl
          rw [h2] at hsl
          injection hsl
        have hb : ((s[0].toNat : Int) == 47) = true := by rw [h47]; rfl
        have HF := Lib.hid (HX.out.1 (by rw [HCL.out, decide_eq_true hsl, Bool.true_or, if_pos rfl]))
        have hpI : (0 : Int) < s.size := by omega
        clear h47 hsl
        go_wp2_with fail
        go_ret2
        exact ⟨by rw [HF.out.1, HF.out.2]; first | done | rfl, Below.refl _ _⟩
      have HRO := Lib.hid (show RO = clFold [] (spS s) by rw [HCL.out, decide_eq_false hsl, decide_eq_false hn0]; rfl)
      have hfst : s.size = 0 ∨ ∃ h : 0 < s.size, ((s[0].toNat : Int) == 47) = false := by
        by_cases hp : 0 < s.size
        · right
          refine ⟨hp, ?_⟩
          rw [beq_eq_false_iff_ne]
          intro e
          apply hsl
          rw [List.head?_eq_getElem?, List.getElem?_eq_getElem (by simpa using hp)]
          have h47 : s[0].toNat = 47 := by omega
          have h48 : s[0] = 47 := UInt8.toNat_inj.1 (h47.trans rfl)
          exact congrArg some h48
        · left; omega
      clear hn0 hsl HCL
      go_upto_region 7 with fail
      go_cut [25] from 18 to 25 (fun v wx => v = .bool false ∧ wx = w)
      case first =>
        rcases hfst with h | ⟨hp, hb⟩
        · have hpI : ¬ (0 : Int) < s.size := by omega
          clear h
          go_wp2_with fail
          go_meet
          case rel => exact ⟨rfl, rfl⟩
        · have hpI : (0 : Int) < s.size := by omega
          go_wp2_with fail
          go_meet
          case rel => exact ⟨rfl, rfl⟩
      case rest =>
        obtain ⟨rfl, rfl⟩ := hcut
        clear hfst
        generalize spS s = L at *
        go_wp2_with fail
        refine (HSP.out _).mono ?_
        rintro e w1 ⟨v, rfl, hown, hb1⟩
        obtain ⟨A, c, rfl, hc, hm, hsl⟩ := SlV.of_own hown bE_len (by omega)
        unfold maxLen at hm
        obtain ⟨b, off, rfl, hbb, hcs⟩ := hsl hpos
        obtain ⟨N, hN⟩ : ∃ N, L.length = N := ⟨_, rfl⟩
        have HCS := Lib.hid (And.intro hN hcs); clear hcs hown hsl
        rw [hN] at hc hpos hlen ⊢
        clear hN
        go_wp2_with fail
        go_loopw [2, 3, 4, 7, 29] (fun r1 r2 lv _ iv wr => ∃ (i : Nat) (l : List ByteArray), i ≤ N ∧ r1 = .string ⟨#[]⟩ ∧ r2 = .bool false ∧ iv = .int .i64 i ∧ clFold [] (L.take i) = some l ∧ wr.ownsRow w1.heap.size 9 1 lv l.length (l.flatMap bE) ∧ Below w1.heap.size w1 wr ∧ l.length ≤ i) (fun _ _ _ _ iv _ => N - (intOf iv).toNat)
        case atStart => exact ⟨0, [], Nat.zero_le _, rfl, rfl, rfl, rfl, ⟨rfl, .inl ⟨rfl, rfl⟩⟩, Below.refl _ _, Nat.le_refl _⟩
        case round =>
          obtain ⟨i, l, hi', rfl, rfl, rfl, hfd, hown, hbr, hll⟩ := hrel
          by_cases hlt : i < N
          · have hiL : i < L.length := by have := HCS.out.1; omega
            have hci := HCS.out.2 i hiL 0 (by omega)
            rw [← hbr.cell (p := ⟨b, _, none⟩) hbb] at hci
            simp [bE] at hci
            have hnx : clFold [] (L.take (i + 1)) = clStep l L[i] := by
              rw [List.take_succ_eq_append_getElem hiL, clFold_snoc, hfd]
              rfl
            have hst : clStep l L[i] = if L[i] = ⟨#[]⟩ ∨ L[i] = mkB [46] then some l else if L[i] = mkB [46, 46] then (if l = [] then none else some l.dropLast) else some (l ++ [L[i]]) := rfl
            rw [hst] at hnx
            have hRO : clFold [] (L.take (i + 1)) = none → RO = none := fun h => by
              rw [HRO.out, ← List.take_append_drop (i + 1) L]
              exact clFold_none _ _ _ h
            have e0 : L[i].toList.isEmpty = decide (L[i] = ⟨#[]⟩) := str_empty L[i]
            have e1 : (L[i].toList == [46]) = decide (L[i] = mkB [46]) := str_is L[i] [46]
            have e2 : (L[i].toList == [46, 46]) = decide (L[i] = mkB [46, 46]) := str_is L[i] [46, 46]
            have hi1 : (i : Int) < N := by omega
            generalize L[i] = X at *
            have HR := Lib.hid hRO; clear hRO hst hfd
            by_cases q2 : X = mkB [46, 46]
            · have n0 : ¬ (X = ⟨#[]⟩ ∨ X = mkB [46]) := by subst q2; decide
              rw [if_neg n0, if_pos q2] at hnx
              rw [decide_eq_true q2] at e2
              clear e0 e1 n0
              by_cases q3 : l = []
              · subst q3
                rw [if_pos rfl] at hnx
                have HF := Lib.hid (HX.out.1 (HR.out hnx))
                obtain ⟨A2, c2, rfl, _, _, _⟩ := SlV.of_own hown bE_len (by omega)
                clear q2 hnx hown
                go_wp2_with fail
                go_ret2
                exact ⟨by rw [HF.out.1, HF.out.2]; first | done | rfl, hb1.trans (hbr.mono hb1.size)⟩
              · rw [if_neg q3] at hnx
                obtain ⟨n', hn'⟩ : ∃ n', l.length = n' + 1 := ⟨l.length - 1, by have := List.length_pos_iff.2 q3; omega⟩
                have hsplit : l.flatMap bE = l.dropLast.flatMap bE ++ [.string (l.getLast q3)] := by
                  conv => lhs; rw [← List.dropLast_concat_getLast q3]
                  exact flat_snoc _ _
                have hdl : l.dropLast.length = n' := by rw [List.length_dropLast]; omega
                rw [hn', hsplit] at hown
                obtain ⟨g, cap, rfl, hcap1, hcap2, hown'⟩ := own_pop hown
                unfold maxLen at hcap2
                have hgl := hown'.lt g rfl
                have hne1 : ((n' : Int) + 1 == 0) = false := by rw [beq_eq_false_iff_ne]; omega
                have hnn : (n' : Int) ≤ cap := by omega
                have hcells : ∀ j u, (l.dropLast.flatMap bE)[j]? = some u → (wr.alloc (.cells #[] 9)).cell? ((⟨g, 0, none⟩ : Addr).add j) = some u := fun j u hj => by
                  have h1 := hown'.cells (g := g) rfl j u hj
                  rw [add_mk] at h1 ⊢
                  exact (((Below.refl wr.heap.size wr).alloc (Nat.le_refl _) _).cell (p := ⟨g, 0 + j, none⟩) hgl.2).trans h1
                have hE : ∀ W : World, Blk W wr.heap.size 9 #[] → W.ownsRow w1.heap.size 9 1 (.slice (some ⟨wr.heap.size, 0, none⟩) 0 0) 0 [] := fun W hW => ⟨rfl, .inr ⟨wr.heap.size, 0, #[], rfl, hbr.size, hW, Nat.le_refl _, by unfold maxLen; omega, rfl, rfl⟩⟩
                have HN := Lib.hid (And.intro hnx (And.intro hdl (And.intro hcells hE))); clear hnx q2 q3 hown hown' hsplit hdl hcells hE
                go_wp2_with (at_builtin; go_loud (refine wpList_append_own_at _ rfl _ _ 26 rfl w1.heap.size 9 i0 (.string ByteArray.empty) 1 16 Tryd.underlying26 hi hz0 hz1 hz2 rfl (by decide) (.slice (some ⟨wr.heap.size, 0, none⟩) 0 0) 0 [] rfl (HN.out.2.2.2 _ (Blk.new _ _ _)) ⟨g, 0, none⟩ n' cap (l.dropLast.flatMap bE) rfl (by rw [flat_len bE_len, HN.out.2.1]) (fun j u hj => HN.out.2.2.1 j u hj) (by intro u hu; obtain ⟨y, _, hy⟩ := List.mem_flatMap.1 hu; unfold bE at hy; rw [List.mem_singleton] at hy; rw [hy]; rfl) (by unfold maxLen; omega) (by omega) (by have := hbr.size; simp; omega) ?_); intro v' w6 hown' hgrow _ hat)
                have hw6 : Below w1.heap.size w1 w6 := (hbr.alloc hbr.size (.cells #[] 9)).grown hgrow (by have := hbr.size; simp; omega) (fun k hk => by have : wr.heap.size = k := Option.some.inj hk; have := hbr.size; omega)
                go_roundw
                case rel =>
                  refine ⟨i + 1, l.dropLast, by omega, rfl, rfl, by go_num, HN.out.1, ?_, hw6, by have := HN.out.2.1; omega⟩
                  have e := HN.out.2.1
                  rw [Nat.zero_add, List.nil_append] at hown'
                  rw [e]
                  exact hown'
                case measure => simp [intOf]; omega
            · rw [if_neg q2] at hnx
              rw [decide_eq_false q2] at e2
              by_cases q0 : X = ⟨#[]⟩
              · rw [if_pos (.inl q0)] at hnx
                rw [decide_eq_true q0] at e0
                have HN := Lib.hid hnx; clear hnx q0 q2 e1
                go_wp2_with fail
                go_roundw
                case rel => exact ⟨i + 1, l, by omega, rfl, rfl, by go_num, HN.out, hown, hbr, by omega⟩
                case measure => simp [intOf]; omega
              rw [decide_eq_false q0] at e0
              by_cases q1 : X = mkB [46]
              · rw [if_pos (.inr q1)] at hnx
                rw [decide_eq_true q1] at e1
                have HN := Lib.hid hnx; clear hnx q0 q1 q2
                go_wp2_with fail
                go_roundw
                case rel => exact ⟨i + 1, l, by omega, rfl, rfl, by go_num, HN.out, hown, hbr, by omega⟩
                case measure => simp [intOf]; omega
              rw [decide_eq_false q1] at e1
              rw [if_neg (fun h => h.elim q0 q1)] at hnx
              have hl6 : l.length + 1 ≤ 1000000 := by omega
              have HN := Lib.hid hnx; clear hnx q0 q1 q2
              have HO := Lib.hid hown; clear hown
              go_wp2_with (refine wpList_app rfl _ _ 26 rfl w1.heap.size 9 (.string ByteArray.empty) 1 16 Tryd.underlying26 info_str rfl (by omega) u4 l.length (l.flatMap bE) (by simp [Act.eval, Act.put]) (own_kept HO.out ((Below.refl _ _).alloc (Nat.le_refl _) _)) wr.heap.size 1 _ _ (by simp [Act.eval, Act.put]) (Blk.new _ _ _) rfl (by simp [Value.oneCell']) hl6 (by omega) (by have := hbr.size; simp; omega) _ rfl ?_; intro g2 cap2 w5 ho2 hg2 hat2 hlt2)
              have hw5 : Below w1.heap.size w1 w5 := own_below HO.out (hbr.alloc hbr.size _) hg2 (Nat.le_refl _) (by have := hbr.size; simp; omega)
              go_roundw
              case rel =>
                refine ⟨i + 1, l ++ [X], by omega, rfl, rfl, by go_num, HN.out, ?_, hw5, by simp; omega⟩
                rw [flat_snoc, List.length_append, List.length_singleton]
                exact ho2
              case measure => simp [intOf]; omega
          · obtain rfl : i = N := by omega
            rw [List.take_of_length_le (by have := HCS.out.1; omega)] at hfd
            obtain ⟨hR1, hR0⟩ := HX.out.2 l (by rw [HRO.out]; exact hfd)
            have hw2 := clFold_wt _ _ _ hfd
            rw [hwt] at hw2
            have h2 : wt [] = 0 := rfl
            have hwl := wt_len l
            have hwj := wt_jn l
            have hbw := hb1.trans (hbr.mono hb1.size)
            obtain ⟨A2, c2, rfl, hc2, hm2, hsl2⟩ := SlV.of_own hown bE_len (by omega)
            have hJ := fun W (hb : Below wr.heap.size wr W) => refJoin_any W A2 l.length c2 l rfl (by unfold maxLen; omega) (hsl2.below hb (Nat.le_refl _)) (by omega)
            have hRt := fun W => refRight_any W (mkB (jnL (datL l))) (by rw [mkB_size]; omega)
            rw [data_mkB] at hRt
            unfold maxLen at hm2
            by_cases hl0 : l = []
            · have hz : rightL (jnL (datL l)) = false := by subst hl0; exact rightL_nil
              have HF := Lib.hid (hR0 hz)
              have hlb : ((l.length : Int) == 0) = true := by subst hl0; rfl
              clear hl0 hz hR1 hR0 hJ hRt hown hsl2 hfd
              go_wp2_with fail
              go_ret2
              exact ⟨by rw [HF.out.1, HF.out.2]; first | done | rfl, hbw⟩
            · have hlb : ((l.length : Int) == 0) = false := by
                rw [beq_eq_false_iff_ne]
                have := List.length_pos_iff.2 hl0
                omega
              clear hl0 hown hsl2 hfd
              have HJ := Lib.hid hJ; clear hJ
              have HRT := Lib.hid hRt; clear hRt
              generalize rightL (jnL (datL l)) = U at *
              generalize mkB (jnL (datL l)) = Q at *
              cases U with
              | false =>
                have HF := Lib.hid (hR0 rfl)
                clear hR1 hR0
                go_wp2_with fail
                refine (HJ.out _ (Below.refl _ _)).mono ?_
                rintro e w5 ⟨rfl, rfl⟩
                go_wp2_with fail
                refine (HRT.out _).mono ?_
                rintro e w6 ⟨rfl, hb6⟩
                go_wp2_with fail
                go_ret2
                exact ⟨by rw [HF.out.1, HF.out.2]; first | done | rfl, hbw.trans (hb6.mono hbw.size)⟩
              | true =>
                have HF := Lib.hid (hR1 rfl).2
                clear hR1 hR0
                go_wp2_with fail
                refine (HJ.out _ (Below.refl _ _)).mono ?_
                rintro e w5 ⟨rfl, rfl⟩
                go_wp2_with fail
                refine (HRT.out _).mono ?_
                rintro e w6 ⟨rfl, hb6⟩
                go_wp2_with fail
                refine (HJ.out _ hb6).mono ?_
                rintro e w7 ⟨rfl, rfl⟩
                go_wp2_with fail
                go_ret2
                exact ⟨by rw [HF.out.1, HF.out.2]; first | done | rfl, hbw.trans (hb6.mono hbw.size)⟩
end Go.Proofs.YtjglkbbhihlcgaaDoor
