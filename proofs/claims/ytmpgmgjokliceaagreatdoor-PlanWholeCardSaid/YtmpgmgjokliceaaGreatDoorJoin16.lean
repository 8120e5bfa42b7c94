/- Several texts, joined for the limit of sixty files; each one opens with its own comment. -/
import Derived.Test.YtmpgmgjokliceaaGreatDoorJoin10
import Derived.Test.YtmpgmgjokliceaaGreatDoorJoin15
import Derived.Test.YtmpgmgjokliceaaGreatDoorJoin1
import Derived.Test.YtmpgmgjokliceaaGreatDoorChecked
import Derived.Test.YtmpgmgjokliceaaGreatDoorJoin11
import Derived.Test.YtmpgmgjokliceaaGreatDoorJoin2
import Derived.Test.YtmpgmgjokliceaaGreatDoorRows
import Derived.Test.YtmpgmgjokliceaaGreatDoorJoin8
import Derived.Test.YtmpgmgjokliceaaGreatDoorJoin5
import Derived.RegionTactic
import Derived.BigRegion
import Derived.Deep.RegionLaw
/- The reference's rows of items: Get, Under, Holds. -/
set_option linter.unusedVariables false
set_option linter.unusedSimpArgs false
namespace Sw
open Go
/-- what the reference's Get finds -/
def refGetT (l : List NE) (p : ByteArray) : Nd := ((l.find? fun e => decide (e.1 = p)).map (·.2)).getD ndZ
theorem refGetT_eq (l : List NE) (p : ByteArray) (h : Up ordS l) : refGetT l p = getT l p := by
  unfold refGetT getT
  rw [get_find ordS_ord p l h]
  congr 3
  funext e
  rw [Bool.eq_iff_iff]
  simp [ordS_ord.iff]
theorem refGetT_hit (l : List NE) (p : ByteArray) (i : Nat) (h : i < l.length) (hn : ∀ m (hm : m < l.length), m < i → ¬ l[m].1 = p) (hk : l[i].1 = p) : refGetT l p = l[i].2 := by
  unfold refGetT
  have hl : l = l.take i ++ l[i] :: l.drop (i + 1) := by rw [← List.drop_eq_getElem_cons h, List.take_append_drop]
  have hf : l.find? (fun e => decide (e.1 = p)) = some l[i] := by
    conv => lhs; rw [hl]
    rw [List.find?_append, List.find?_eq_none.2 (fun e he => by
      obtain ⟨m, hm, rfl⟩ := List.mem_iff_getElem.1 he
      rw [List.length_take] at hm
      rw [List.getElem_take]
      simpa using hn m (by omega) (by omega)), List.find?_cons_of_pos (by simp [hk])]
    rfl
  rw [hf]
  rfl
theorem refGetT_none (l : List NE) (p : ByteArray) (hn : ∀ m (hm : m < l.length), ¬ l[m].1 = p) : refGetT l p = ndZ := by
  unfold refGetT
  rw [List.find?_eq_none.2 (fun e he => by
    obtain ⟨m, hm, rfl⟩ := List.mem_iff_getElem.1 he
    simpa using hn m hm)]
  rfl
end Sw
namespace Go.Proofs.YtmpgmgjokliceaaGreatDoor
open Go Go.RowKit
open Sw
theorem infoIt : (Tryz.prog.info? 70).map (fun i => (i.zero, i.size, i.bytes)) = some (some (.agg #[.string ⟨#[]⟩, .int .i64 0, .int .i64 0, .int .u32 0, .string ⟨#[]⟩]), 5, 56) := by kernel_rfl
/-- a row of items of the call's own -/
def OwnIt (w : World) (base : Nat) (u : Value) (l : List NE) : Prop := w.ownsRow base 70 5 u l.length (l.flatMap eCSN)
theorem OwnIt.slv {w : World} {base : Nat} {u : Value} {l : List NE} (h : OwnIt w base u l) : SlV w 5 eCSN u l := SlV.of_own h eCSN_len (by decide)
theorem OwnIt.below {w w' : World} {base : Nat} {u : Value} {l : List NE} (h : OwnIt w base u l) (hb : Below w.heap.size w w') : OwnIt w' base u l := own_kept h hb
theorem OwnIt.zero {w : World} {b : Nat} {u : Value} {l : List NE} (h : OwnIt w b u l) : OwnIt w 0 u l := own_wide h (Nat.zero_le _)
theorem str_eq (a b : ByteArray) : (a.toList == b.toList) = decide (a = b) := by
  rw [Bool.eq_iff_iff, beq_iff_eq, decide_eq_true_eq, ByteArray.toList_eq, ByteArray.toList_eq]
  exact ⟨dat_inj, fun e => by rw [e]⟩
set_option maxRecDepth 100000 in
set_option maxHeartbeats 4000000 in
theorem ref16Get_any (w : World) (v : Value) (l : List NE) (p : ByteArray) (h : SlV w 5 eCSN v l) :
    Calls Tryz.prog 46 #[v, .string p] w fun e w' => e = .returned (.agg (refGetT l p).c) ∧ Below w.heap.size w w' := by
  obtain ⟨A, c, rfl, hc1, hc2, hsl⟩ := h
  obtain ⟨n, hn⟩ : ∃ n, l.length = n := ⟨_, rfl⟩
  rw [hn] at hc1 ⊢
  unfold maxLen at hc2
  have HL := Lib.hid hn; clear hn
  have HS := Lib.hid hsl; clear hsl
  have hb0 := (Below.refl w.heap.size w).alloc (Nat.le_refl _) (.cells #[.int .i64 0, .int .i64 0, .int .u32 0, .string ⟨#[]⟩] 37)
  have H0 := Lib.hid (And.intro hb0 (Blk.new w 37 #[.int .i64 0, .int .i64 0, .int .u32 0, .string ⟨#[]⟩])); clear hb0
  obtain ⟨G, hG⟩ : ∃ G, refGetT l p = G := ⟨_, rfl⟩
  rw [hG]
  have HG := Lib.hid hG; clear hG
  obtain ⟨T, hT⟩ : ∃ T, w.heap.size = T := ⟨_, rfl⟩
  rw [hT] at H0
  go_enter Tryz.func46, Tryz.ntmps46
  go_wp2_with fail
  go_loopw [9] (fun iv wr => ∃ i : Nat, i ≤ n ∧ iv = .int .i64 i ∧ (∀ m (hm : m < l.length), m < i → ¬ l[m].1 = p) ∧ Blk wr T 37 #[.int .i64 0, .int .i64 0, .int .u32 0, .string ⟨#[]⟩] ∧ Below T w wr) (fun iv _ => n - (intOf iv).toNat)
  case atStart => exact ⟨0, Nat.zero_le _, rfl, fun m h h' => absurd h' (Nat.not_lt_zero _), H0.out.2, H0.out.1⟩
  case round =>
    obtain ⟨i, hi, rfl, hall, hB, hb⟩ := hrel
    have HA := Lib.hid hall; clear hall
    by_cases hlt : i < n
    · have hiL : i < l.length := by have := HL.out; omega
      obtain ⟨b, off, rfl, hbb, hcs⟩ := (HS.out.below (B := w.heap.size) (by rw [hT]; exact hb) (Nat.le_refl _)) (by omega)
      have c0 := hcs i hiL 0 (by omega)
      have c1 := hcs i hiL 1 (by omega)
      have c2 := hcs i hiL 2 (by omega)
      have c3 := hcs i hiL 3 (by omega)
      have c4 := hcs i hiL 4 (by omega)
      simp only [eCSN, List.getElem?_cons_succ, List.getElem?_cons_zero, Nat.add_zero] at c0 c1 c2 c3 c4
      clear hcs
      have hi1 : (i : Int) < n := by omega
      have hse := str_eq l[i].1 p
      have hgh := fun hk => refGetT_hit l p i hiL HA.out hk
      have hgn := fun (hk : ¬ l[i].1 = p) m (hm : m < l.length) (h : m < i + 1) => (by
        by_cases h2 : m < i
        · exact HA.out m hm h2
        · obtain rfl : m = i := by omega
          exact hk : ¬ l[m].1 = p)
      obtain ⟨x, hx⟩ : ∃ x, l[i] = x := ⟨_, rfl⟩
      rw [hx] at hse
      simp only [hx] at c0 c1 c2 c3 c4 hgh hgn
      have hba := (Below.refl wr.heap.size wr).alloc (Nat.le_refl _) (.cells #[.string x.1, .int .i64 x.2.kind, .int .i64 x.2.mode, .int .u32 x.2.time, .string x.2.data] 70)
      have hB1 := hB.below hba hB.lt
      have hb1 := hb.trans (hba.mono (by rw [← hT]; exact hb.size))
      have HX := Lib.hid (And.intro hgh hgn); clear hgh hgn hx
      by_cases hk : x.1 = p
      · rw [decide_eq_true hk] at hse
        have hg := HX.out.1 hk
        rw [HG.out] at hg
        have x0 := hB1.cell 0
        have x1 := hB1.cell 1
        have x2 := hB1.cell 2
        have x3 := hB1.cell 3
        have f0 := hB1.frozen 0
        have f1 := hB1.frozen 1
        have f2 := hB1.frozen 2
        have f3 := hB1.frozen 3
        simp at x0 x1 x2 x3
        have HF := Lib.hid (And.intro hB1 (And.intro hb1 hg)); clear hB1 hb1 hg hba hB hb hk
        go_wp2_with fail
        refine bodyPost_ret (v := .agg #[.int .i64 x.2.kind, .int .i64 x.2.mode, .int .u32 x.2.time, .string x.2.data]) (results_cell_row rfl _ _ T 37 #[.int .i64 x.2.kind, .int .i64 x.2.mode, .int .u32 x.2.time, .string x.2.data] (0, 0) _ rfl ((((HF.out.1.put 0 (.int .i64 x.2.kind)).put 1 (.int .i64 x.2.mode)).put 2 (.int .u32 x.2.time)).put 3 (.string x.2.data)) Tryz.underlying37 rfl infoVSN) rfl ⟨by rw [HF.out.2.2]; rfl, ?_⟩
        exact ((((HF.out.2.1.setCell (p := ⟨T, 0, none⟩) (Nat.le_refl _) (.int .i64 x.2.kind)).setCell (p := ⟨T, 1, none⟩) (Nat.le_refl _) (.int .i64 x.2.mode)).setCell (p := ⟨T, 2, none⟩) (Nat.le_refl _) (.int .u32 x.2.time)).setCell (p := ⟨T, 3, none⟩) (Nat.le_refl _) (.string x.2.data)).mono (Nat.le_of_eq hT)
      · rw [decide_eq_false hk] at hse
        have HF := Lib.hid (And.intro hB1 (And.intro hb1 (HX.out.2 hk))); clear hB1 hb1 hba hB hb hk
        go_wp2_with fail
        go_roundw
        case rel => exact ⟨i + 1, by omega, by go_num, HF.out.2.2, HF.out.1, HF.out.2.1⟩
        case measure => simp [intOf]; omega
    · obtain rfl : i = n := by omega
      have hg := refGetT_none l p (fun m hm => HA.out m hm (by have := HL.out; omega))
      rw [HG.out] at hg
      have x0 := hB.cell 0
      have x1 := hB.cell 1
      have x2 := hB.cell 2
      have x3 := hB.cell 3
      have f0 := hB.frozen 0
      have f1 := hB.frozen 1
      have f2 := hB.frozen 2
      have f3 := hB.frozen 3
      simp at x0 x1 x2 x3
      have HF := Lib.hid (And.intro hB (And.intro hb hg)); clear hB hb hg
      go_wp2_with fail
      refine bodyPost_ret (v := .agg #[.int .i64 0, .int .i64 0, .int .u32 0, .string ⟨#[]⟩]) (results_cell_row rfl _ _ T 37 #[.int .i64 0, .int .i64 0, .int .u32 0, .string ⟨#[]⟩] (0, 0) _ rfl ((((HF.out.1.put 0 (.int .i64 0)).put 1 (.int .i64 0)).put 2 (.int .u32 0)).put 3 (.string ⟨#[]⟩)) Tryz.underlying37 rfl infoVSN) rfl ⟨by rw [HF.out.2.2]; rfl, ?_⟩
      exact ((((HF.out.2.1.setCell (p := ⟨T, 0, none⟩) (Nat.le_refl _) (.int .i64 0)).setCell (p := ⟨T, 1, none⟩) (Nat.le_refl _) (.int .i64 0)).setCell (p := ⟨T, 2, none⟩) (Nat.le_refl _) (.int .u32 0)).setCell (p := ⟨T, 3, none⟩) (Nat.le_refl _) (.string ⟨#[]⟩)).mono (Nat.le_of_eq hT)
set_option maxRecDepth 100000 in
set_option maxHeartbeats 4000000 in
theorem ref16Under_any (w : World) (p q : ByteArray) (hq : q.size ≤ 90000) :
    Calls Tryz.prog 51 #[.string p, .string q] w fun e w' => e = .returned (.bool (inS (upsS q) p)) ∧ Below w.heap.size w w' := by
  have HU := Lib.hid (refUps_any w q hq)
  obtain ⟨R, hR⟩ : ∃ R, inS (upsS q) p = R := ⟨_, rfl⟩
  rw [hR]
  have HR := Lib.hid hR; clear hR
  obtain ⟨l, hl⟩ : ∃ l, upsS q = l := ⟨_, rfl⟩
  rw [hl] at HU HR
  clear hl hq
  go_enter Tryz.func51, Tryz.ntmps51
  go_wp2_with fail
  refine HU.out.mono ?_
  rintro e w1 ⟨v, rfl, s, hb1⟩
  obtain ⟨A, c, rfl, hc1, hc2, hsl⟩ := s
  obtain ⟨n, hn⟩ : ∃ n, l.length = n := ⟨_, rfl⟩
  rw [hn] at hc1 ⊢
  unfold maxLen at hc2
  have HL := Lib.hid hn; clear hn
  have HS := Lib.hid hsl; clear hsl
  have HB := Lib.hid hb1; clear hb1 HU
  go_wp2_with fail
  go_loopw [6, 10] (fun _ iv wr => ∃ i : Nat, i ≤ n ∧ iv = .int .i64 i ∧ (∀ m (hm : m < l.length), m < i → ¬ l[m] = p) ∧ w1 = wr) (fun _ iv _ => n - (intOf iv).toNat)
  case atStart => exact ⟨0, Nat.zero_le _, rfl, fun m h h' => absurd h' (Nat.not_lt_zero _), rfl⟩
  case round =>
    obtain ⟨i, hi, rfl, hall, rfl⟩ := hrel
    have HA := Lib.hid hall; clear hall
    by_cases hlt : i < n
    · have hiL : i < l.length := by have := HL.out; omega
      obtain ⟨b, off, rfl, hbb, hcs⟩ := HS.out (by omega)
      have c0 := hcs i hiL 0 (by omega)
      simp [bE] at c0
      clear hcs
      have hi1 : (i : Int) < n := by omega
      have hse := str_eq l[i] p
      have hgh := fun (hk : l[i] = p) => (by
        rw [← HR.out]
        exact (inS_iff l p).2 (by rw [← hk]; exact List.getElem_mem hiL) : R = true)
      have hgn := fun (hk : ¬ l[i] = p) m (hm : m < l.length) (h : m < i + 1) => (by
        by_cases h2 : m < i
        · exact HA.out m hm h2
        · obtain rfl : m = i := by omega
          exact hk : ¬ l[m] = p)
      obtain ⟨x, hx⟩ : ∃ x, l[i] = x := ⟨_, rfl⟩
      rw [hx] at hse
      simp only [hx] at c0 hgh hgn
      have HX := Lib.hid (And.intro hgh hgn); clear hgh hgn hx
      by_cases hk : x = p
      · rw [decide_eq_true hk] at hse
        have HF := Lib.hid (HX.out.1 hk)
        have HSE := Lib.hid hse
        subst hk
        go_wp2_with fail
        go_ret
        exact ⟨by rw [HF.out]; rfl, HB.out⟩
      · rw [decide_eq_false hk] at hse
        have HF := Lib.hid (HX.out.2 hk); clear hk
        go_wp2_with fail
        go_roundw
        case rel => exact ⟨i + 1, by omega, by go_num, HF.out, by trivial⟩
        case measure => simp [intOf]; omega
    · obtain rfl : i = n := by omega
      have hg : R = false := by
        rw [← HR.out]
        cases hq : inS l p with
        | false => rfl
        | true =>
          obtain ⟨m, hm, he⟩ := List.mem_iff_getElem.1 ((inS_iff l p).1 hq)
          exact absurd he (HA.out m hm (by have := HL.out; omega))
      have HF := Lib.hid hg; clear hg
      go_wp2_with fail
      go_ret
      exact ⟨by rw [HF.out]; rfl, HB.out⟩
set_option maxRecDepth 100000 in
set_option maxHeartbeats 4000000 in
theorem ref16Holds_any (w : World) (v : Value) (l : List NE) (p : ByteArray) (h : SlV w 5 eCSN v l) (hok : ∀ e ∈ l, e.1.size ≤ 90000) :
    Calls Tryz.prog 167 #[v, .string p] w fun e w' => e = .returned (.bool (l.any fun e => inS (upsS e.1) p)) ∧ Below w.heap.size w w' := by
  obtain ⟨A, c, rfl, hc1, hc2, hsl⟩ := h
  obtain ⟨n, hn⟩ : ∃ n, l.length = n := ⟨_, rfl⟩
  rw [hn] at hc1 ⊢
  unfold maxLen at hc2
  have HL := Lib.hid hn; clear hn
  have HS := Lib.hid hsl; clear hsl
  have HOK := Lib.hid hok; clear hok
  obtain ⟨R, hR⟩ : ∃ R, (l.any fun e => inS (upsS e.1) p) = R := ⟨_, rfl⟩
  rw [hR]
  have HR := Lib.hid hR; clear hR
  go_enter Tryz.func167, Tryz.ntmps167
  go_wp2_with fail
  go_loopw [9] (fun iv wr => ∃ i : Nat, i ≤ n ∧ iv = .int .i64 i ∧ (∀ m (hm : m < l.length), m < i → inS (upsS l[m].1) p = false) ∧ Below w.heap.size w wr) (fun iv _ => n - (intOf iv).toNat)
  case atStart => exact ⟨0, Nat.zero_le _, rfl, fun m h h' => absurd h' (Nat.not_lt_zero _), Below.refl _ _⟩
  case round =>
    obtain ⟨i, hi, rfl, hall, hb⟩ := hrel
    have HA := Lib.hid hall; clear hall
    by_cases hlt : i < n
    · have hiL : i < l.length := by have := HL.out; omega
      obtain ⟨b, off, rfl, hbb, hcs⟩ := (HS.out.below hb (Nat.le_refl _)) (by omega)
      have c0 := hcs i hiL 0 (by omega)
      have c1 := hcs i hiL 1 (by omega)
      have c2 := hcs i hiL 2 (by omega)
      have c3 := hcs i hiL 3 (by omega)
      have c4 := hcs i hiL 4 (by omega)
      simp only [eCSN, List.getElem?_cons_succ, List.getElem?_cons_zero, Nat.add_zero] at c0 c1 c2 c3 c4
      clear hcs
      have hi1 : (i : Int) < n := by omega
      have hgh := fun (hk : inS (upsS l[i].1) p = true) => (by
        rw [← HR.out, List.any_eq_true]
        exact ⟨l[i], List.getElem_mem hiL, hk⟩ : R = true)
      have hgn := fun (hk : inS (upsS l[i].1) p = false) m (hm : m < l.length) (h : m < i + 1) => (by
        by_cases h2 : m < i
        · exact HA.out m hm h2
        · obtain rfl : m = i := by omega
          exact hk : inS (upsS l[m].1) p = false)
      have hxk := HOK.out l[i] (List.getElem_mem hiL)
      obtain ⟨x, hx⟩ : ∃ x, l[i] = x := ⟨_, rfl⟩
      rw [hx] at hxk
      simp only [hx] at c0 c1 c2 c3 c4 hgh hgn
      have hba := (Below.refl wr.heap.size wr).alloc (Nat.le_refl _) (.cells #[.string x.1, .int .i64 x.2.kind, .int .i64 x.2.mode, .int .u32 x.2.time, .string x.2.data] 70)
      have HU := Lib.hid (ref16Under_any (wr.alloc (.cells #[.string x.1, .int .i64 x.2.kind, .int .i64 x.2.mode, .int .u32 x.2.time, .string x.2.data] 70)) p x.1 hxk)
      have HB := Lib.hid (hb.trans (hba.mono hb.size))
      have HX := Lib.hid (And.intro hgh hgn); clear hgh hgn hx hba hb hxk
      obtain ⟨r, hr⟩ : ∃ r, inS (upsS x.1) p = r := ⟨_, rfl⟩
      rw [hr] at HU HX
      clear hr
      cases r with
      | true =>
        have hrt := HX.out.1 (by trivial)
        have HRT := Lib.hid hrt; clear hrt HX
        go_wp2_with fail
        refine HU.out.mono ?_
        rintro e w2 ⟨rfl, hb2⟩
        have HB2 := Lib.hid (HB.out.trans (hb2.mono HB.out.size)); clear hb2
        go_wp2_with fail
        go_ret
        exact ⟨by rw [HRT.out]; rfl, HB2.out⟩
      | false =>
        have hrt := HX.out.2 (by trivial)
        have HRT := Lib.hid hrt; clear hrt HX
        go_wp2_with fail
        refine HU.out.mono ?_
        rintro e w2 ⟨rfl, hb2⟩
        have HB2 := Lib.hid (HB.out.trans (hb2.mono HB.out.size)); clear hb2
        go_wp2_with fail
        go_roundw
        case rel => exact ⟨i + 1, by omega, by go_num, HRT.out, HB2.out⟩
        case measure => simp [intOf]; omega
    · obtain rfl : i = n := by omega
      have hg : R = false := by
        rw [← HR.out, List.any_eq_false]
        intro e he
        obtain ⟨m, hm, rfl⟩ := List.mem_iff_getElem.1 he
        rw [HA.out m hm (by have := HL.out; omega)]
        simp
      have HF := Lib.hid (And.intro hg hb); clear hg hb
      go_wp2_with fail
      go_ret
      exact ⟨by rw [HF.out.1]; rfl, HF.out.2⟩
end Go.Proofs.YtmpgmgjokliceaaGreatDoor
/- The law's Light: are the steps few and small? -/
set_option linter.unusedVariables false
set_option linter.unusedSimpArgs false
namespace Go.Proofs.YtmpgmgjokliceaaGreatDoor
open Go Go.RowKit
open Sw
/-- a small step -/
def SmallE (e : NE) : Prop := e.1.size ≤ 100 ∧ e.2.data.size ≤ 500
set_option maxRecDepth 100000 in
set_option maxHeartbeats 4000000 in
theorem light16_any (w : World) (v : Value) (l : List NE) (h : SlV w 5 eCSN v l) (hsz : ∀ e ∈ l, e.1.size ≤ maxLen ∧ e.2.data.size ≤ maxLen) :
    Calls Tryz.prog 24 #[v] w fun e w' => ∃ R : Bool, e = .returned (.bool R) ∧ (R = true → l.length ≤ 30 ∧ ∀ e ∈ l, SmallE e) ∧ Below w.heap.size w w' := by
  obtain ⟨A, c, rfl, hc1, hc2, hsl⟩ := h
  obtain ⟨n, hn⟩ : ∃ n, l.length = n := ⟨_, rfl⟩
  rw [hn] at hc1 ⊢
  unfold maxLen at hc2 hsz
  have HL := Lib.hid hn; clear hn
  have HS := Lib.hid hsl; clear hsl
  have HZ := Lib.hid hsz; clear hsz
  by_cases h30 : n ≤ 30
  · go_enter Tryz.func24, Tryz.ntmps24
    go_wp2_with fail
    go_loopw [4, 10] (fun _ iv wr => ∃ i : Nat, i ≤ n ∧ iv = .int .i64 i ∧ (∀ k (hk : k < l.length), k < i → SmallE l[k]) ∧ Below w.heap.size w wr) (fun _ iv _ => n - (intOf iv).toNat)
    case atStart => exact ⟨0, Nat.zero_le _, rfl, fun k _ h => absurd h (Nat.not_lt_zero _), Below.refl _ _⟩
    case round =>
      obtain ⟨i, hi, rfl, hall, hb⟩ := hrel
      have HA := Lib.hid hall; clear hall
      by_cases hlt : i < n
      · have hiL : i < l.length := by have := HL.out; omega
        obtain ⟨b, off, rfl, hbb, hcs⟩ := (HS.out.below hb (Nat.le_refl _)) (by omega)
        have c0 := hcs i hiL 0 (by omega)
        have c1 := hcs i hiL 1 (by omega)
        have c2 := hcs i hiL 2 (by omega)
        have c3' := hcs i hiL 3 (by omega)
        have c4 := hcs i hiL 4 (by omega)
        simp only [eCSN, List.getElem?_cons_succ, List.getElem?_cons_zero, Nat.add_zero] at c0 c1 c2 c3' c4
        clear hcs
        have hi1 : (i : Int) < n := by omega
        obtain ⟨hz1, hz2⟩ := HZ.out l[i] (List.getElem_mem hiL)
        obtain ⟨x, hx⟩ : ∃ x, l[i] = x := ⟨_, rfl⟩
        simp only [hx] at c0 c1 c2 c3' c4 hz1 hz2
        have HX := Lib.hid hx; clear hx
        have HB := Lib.hid (hb.alloc hb.size (.cells #[.string x.1, .int .i64 x.2.kind, .int .i64 x.2.mode, .int .u32 x.2.time, .string x.2.data] 70)); clear hb
        by_cases s1 : x.1.size ≤ 100
        · by_cases s2 : x.2.data.size ≤ 500
          · have s1' : (x.1.size : Int) ≤ 100 := by omega
            have s2' : (x.2.data.size : Int) ≤ 500 := by omega
            go_wp2_with fail
            go_roundw
            case rel => exact ⟨i + 1, by omega, by go_num, fun k hk hki => by
              by_cases e : k = i
              · subst e; rw [HX.out]; exact ⟨s1, s2⟩
              · exact HA.out k hk (by omega), HB.out⟩
            case measure => simp [intOf]; omega
          · have s1' : (x.1.size : Int) ≤ 100 := by omega
            have s2' : (500 : Int) < x.2.data.size := by omega
            go_wp2_with fail
            go_ret
            exact ⟨false, rfl, fun h => absurd h (by decide), HB.out⟩
        · have s1' : (100 : Int) < x.1.size := by omega
          go_wp2_with fail
          go_ret
          exact ⟨false, rfl, fun h => absurd h (by decide), HB.out⟩
      · obtain rfl : i = n := by omega
        have HB := Lib.hid hb; clear hb
        go_wp2_with fail
        go_ret
        exact ⟨true, rfl, fun _ => ⟨h30, fun e he => by
          obtain ⟨k, hk, rfl⟩ := List.mem_iff_getElem.1 he
          exact HA.out k hk (by have := HL.out; omega)⟩, HB.out⟩
  · have h31 : (30 : Int) < n := by omega
    go_enter Tryz.func24, Tryz.ntmps24
    go_wp2_with fail
    go_ret
    exact ⟨false, rfl, fun h => absurd h (by decide), Below.refl _ _⟩
end Go.Proofs.YtmpgmgjokliceaaGreatDoor
/- Arguments that are rows of items, opened. -/
set_option linter.unusedVariables false
namespace Go.Proofs.YtmpgmgjokliceaaGreatDoor
open Go Go.ChangeShapes Go.WideShapes Go.ChangeAt Go.RowKit
open Sw
/-- an item that came in -/
def NEIn (e : NE) : Prop := e.1.size ≤ maxLen ∧ NdIn e.2
set_option maxRecDepth 100000 in
theorem dec_nodeI {H : Type} {enc : TypeId × Value → H} {w : World} (fuel : Nat) (cs : List Value) (x : DataW H × List MemPlace) (h : DataW.trod enc Tryz.prog w 0 (fun _ => true) true fuel 37 cs = some x) :
    ∃ n : Nd, cs = [.int .i64 n.kind, .int .i64 n.mode, .int .u32 n.time, .string n.data] ∧ NdIn n := by
  obtain ⟨hl, hff⟩ := dec_fields Tryz.underlying37 (by kernel_rfl) (by kernel_rfl) h
  match cs, hl with
  | [c0, c1, c2, c3], _ =>
    obtain ⟨v0, n0, y0, e0, h0⟩ := hff 0 _ rfl
    obtain ⟨v1, n1, y1, e1, h1⟩ := hff 1 _ rfl
    obtain ⟨v2, n2, y2, e2, h2⟩ := hff 2 _ rfl
    obtain ⟨v3, n3, y3, e3, h3⟩ := hff 3 _ rfl
    simp at e0 e1 e2 e3
    subst e0 e1 e2 e3
    obtain ⟨k0, ek0, _, _⟩ := DataW.trod_int Tryz.underlying3 h0
    obtain ⟨k1, ek1, _, _⟩ := DataW.trod_int Tryz.underlying3 h1
    obtain ⟨k2, ek2, _, wk⟩ := DataW.trod_int Tryz.underlying35 h2
    obtain ⟨s, hs, _, hl⟩ := DataW.trod_string Tryz.underlying9 h3
    obtain ⟨b0, b1⟩ := bounds_u32 wk
    simp at ek0 ek1 ek2 hs
    subst ek0 ek1 ek2 hs
    exact ⟨⟨k0, k1, k2, s⟩, rfl, b0, by show k2 < 4294967296; omega, hl⟩
set_option maxRecDepth 100000 in
theorem dec_item {H : Type} {enc : TypeId × Value → H} {w : World} (fuel : Nat) (cs : List Value) (x : DataW H × List MemPlace) (h : DataW.trod enc Tryz.prog w 0 (fun _ => true) true fuel 70 cs = some x) :
    ∃ e : NE, cs = eCSN e ∧ NEIn e := by
  obtain ⟨y0, y1, n, _, hl, h0, h1⟩ := trod_struct2 Tryz.underlying70 h
  have hl5 : cs.length = 5 := hl.trans (by kernel_rfl)
  match cs, hl5 with
  | [c0, c1, c2, c3, c4], _ =>
    rw [show Tryz.prog.cellsOf 9 = 1 by kernel_rfl] at h0
    rw [show Tryz.prog.cellsOf 37 = 4 by kernel_rfl] at h1
    simp only [List.drop_zero, List.drop_succ_cons, List.take_succ_cons, List.take_zero] at h0 h1
    obtain ⟨s, hs, _, hsz⟩ := DataW.trod_string Tryz.underlying9 h0
    simp at hs
    subst hs
    obtain ⟨m, hm, hin⟩ := dec_nodeI _ _ _ h1
    simp at hm
    obtain ⟨rfl, rfl, rfl, rfl⟩ := hm
    exact ⟨(s, m), rfl, hsz, hin⟩
end Go.Proofs.YtmpgmgjokliceaaGreatDoor
/- A slice inside of what was read, by a decoder of its elements. -/
set_option linter.unusedVariables false
namespace Go.Proofs.YtmpgmgjokliceaaGreatDoor
open Go Go.ChangeShapes Go.WideShapes Go.ChangeAt Go.RowKit
open Sw
section
open Go.Deep
variable {H : Type} {enc : TypeId × Value → H} {P : Program} {w : World}
/-- A slice inside of what was read, by a decoder of its elements. -/
theorem slice_of_trodB {α : Type} (E : α → List Value) (V : α → Prop) {t e : TypeId} {fuel : Nat} {cs : List Value} {x : DataW H × List MemPlace} {size : Nat} (ht : P.underlying t = some (.slice e)) (hC : P.cellsOf e = size) (hs : 0 < size)
    (hdec : ∀ fuel cs x, DataW.trod enc P w 0 (fun _ => true) true fuel e cs = some x → ∃ a : α, cs = E a ∧ V a)
    (hf : DataW.trod enc P w 0 (fun _ => true) true fuel t cs = some x) :
    ∃ (A : Option Addr) (n c : Nat) (l : List α), cs = [.slice A n c] ∧ n ≤ c ∧ c ≤ maxLen ∧ l.length = n ∧ SlOf w size E A l ∧ (∀ a ∈ l, V a) := by
  rcases open_slice ht hf with ⟨h0, _⟩ | ⟨a, len, cap, m, k, D, Pl, hcs, hb, hl, hm, hmm, hx, hi⟩
  · exact ⟨none, 0, 0, [], h0, Nat.le_refl _, by simp [maxLen], rfl, SlOf.nil _ _ _ _, by simp⟩
  · rw [hC] at hi
    have hmc : m = cap := by simpa using hmm
    subst hmc
    obtain ⟨l, hlen, hq⟩ := exists_list (Q := fun i (x : α) => V x ∧ (E x).length = size ∧ ∀ j, j < size → w.cell? ((a.add (i * size)).add j) = (E x)[j]?) len (fun i hin => by
      obtain ⟨cs', hc, htr⟩ := hi i (by omega)
      obtain ⟨x, rfl, hx⟩ := hdec _ _ _ htr
      obtain ⟨_, hcl, hat⟩ := World.cells?_some hc
      exact ⟨x, hx, hcl, fun j hj => hat j hj⟩)
    refine ⟨some a, len, m, l, hcs, hl, hm, hlen, fun hn => ?_, fun x hx => ?_⟩
    · obtain ⟨_, hsz, hat⟩ := hq 0 hn
      have h0 := hat 0 hs
      rw [List.getElem?_eq_getElem (by omega)] at h0
      have hsp := World.cell?_spot h0
      have hlt := World.block_lt_of_cell? w _ h0
      rw [add_add, Nat.zero_mul, Nat.add_zero] at hsp hlt
      rw [show a.add 0 = a from rfl] at hsp hlt
      obtain ⟨b, off, spot⟩ := a
      have hsp' : spot = none := hsp
      subst hsp'
      refine ⟨b, off, rfl, hlt, fun i hi j hj => ?_⟩
      have h1 := (hq i hi).2.2 j hj
      rw [add_mk, add_mk] at h1
      exact h1
    · obtain ⟨i, hi', rfl⟩ := List.getElem_of_mem hx
      exact (hq i hi').1
end
end Go.Proofs.YtmpgmgjokliceaaGreatDoor
/- An argument that is two rows of items, opened. -/
set_option linter.unusedVariables false
namespace Go.Proofs.YtmpgmgjokliceaaGreatDoor
open Go Go.ChangeShapes Go.WideShapes Go.ChangeAt Go.RowKit
open Sw
set_option maxRecDepth 100000 in
theorem open_items2D {H : Type} {enc : TypeId × Value → H} {w : World} {r : Reach} {b0 : Nat} {v : Value} {d : DataW H} {p : List MemPlace} (hv : Value.okWide Tryz.prog w r b0 23 v) (h : DataW.Trod enc Tryz.prog w 0 (fun _ => true) true 23 v d p) :
    ∃ (v1 v2 : Value) (xs ys : List NE), v = .agg #[v1, v2] ∧ SlV w 5 eCSN v1 xs ∧ SlV w 5 eCSN v2 ys ∧ (∀ x ∈ xs, NEIn x) ∧ ∀ x ∈ ys, NEIn x := by
  obtain ⟨l, rfl, hl, hV⟩ := open_array_dec (n := 2) (e := 22) (fun a : Value × List NE => a.1) (fun a => SlV w 5 eCSN a.1 a.2 ∧ ∀ x ∈ a.2, NEIn x) Tryz.underlying23 (by kernel_rfl) (by kernel_rfl) (fun fuel c x hx => by
    obtain ⟨A1, m1, k1, l1, e1, q1, q2, q3, q4, q5⟩ := slice_of_trodB (size := 5) eCSN NEIn Tryz.underlying22 (by kernel_rfl) (by decide) dec_item hx
    simp at e1
    subst e1 q3
    exact ⟨(_, l1), rfl, ⟨A1, k1, rfl, q1, q2, q4⟩, q5⟩) hv h
  match l, hl with
  | [a, b], _ => exact ⟨a.1, b.1, a.2, b.2, rfl, (hV a (by simp)).1, (hV b (by simp)).1, (hV a (by simp)).2, (hV b (by simp)).2⟩
end Go.Proofs.YtmpgmgjokliceaaGreatDoor
/- slices.Clone of a row of string: the same elements, in memory of the call's own. -/
set_option linter.unusedVariables false
set_option linter.unusedSimpArgs false
namespace Go.Proofs.YtmpgmgjokliceaaGreatDoor
open Go Go.RowKit
open Sw
theorem infoEST : (Tryz.prog.info? 9).map (fun i => (i.zero, i.size, i.bytes)) = some (some (.string ⟨#[]⟩), 1, 16) := by kernel_rfl
set_option maxRecDepth 100000 in
set_option maxHeartbeats 2000000 in
theorem slCloneST_any {α : Type} (E : α → List Value) (hE : ∀ x, (E x).length = 1) (hE1 : ∀ x, ∀ u ∈ E x, u.oneCell' = true) (w : World) (v : Value) (l : List α) (h : SlV w 1 E v l) (hl : l.length ≤ 1000000) :
    Calls Tryz.prog 84 #[v] w fun e w' => ∃ v', e = .returned v' ∧ w'.ownsRow w.heap.size 9 1 v' l.length (l.flatMap E) ∧ Below w.heap.size w w' := by
  obtain ⟨A, c, rfl, hc1, hc2, hsl⟩ := h
  cases A with
  | none =>
    have h0 : l = [] := by
      cases l with
      | nil => rfl
      | cons a l => obtain ⟨b, off, h, _⟩ := hsl (by simp); cases h
    subst h0
    have hno := World.ownsRow_nil w w.heap.size 9 1
    have HN := Lib.hid hno; clear hno hsl
    have hnl : ∀ W n c, (binOp .eql 24 (.slice none n c) (.slice none 0 0)).run Tryz.prog W = .ok (.bool true) W := fun W n c => Lib.run_eql_slice_nil W 24 9 none n c 0 0 Tryz.underlying24
    go_enter Tryz.func84, Tryz.ntmps84
    go_wp2_with fail
    go_ret
    exact ⟨_, rfl, HN.out, Below.refl _ _⟩
  | some a =>
    obtain ⟨i0, hi, hz0, hz1, hz2⟩ := info_parts infoEST
    have hlen : (l.flatMap E).length = l.length * 1 := flat_len hE l
    have hone : ∀ u ∈ l.flatMap E, u.oneCell' = true := fun u hu => by
      rw [List.mem_flatMap] at hu
      obtain ⟨x, _, hx⟩ := hu
      exact hE1 x u hx
    have hnews : ∀ j u, (l.flatMap E)[j]? = some u → w.cell? (a.add j) = some u := fun j u hj => by
      have hjl := (List.getElem?_eq_some_iff.1 hj).1
      rw [hlen] at hjl
      obtain ⟨b, off, hA, _, hcs⟩ := hsl (by omega)
      rw [Option.some.inj hA, add_mk]
      have hq : j / 1 < l.length := by omega
      have hr : j % 1 < 1 := Nat.mod_lt _ (by omega)
      have hd : j / 1 * 1 + j % 1 = j := by omega
      have h1 := flat_get hE l (j / 1) hq (j % 1) hr
      rw [hd, hj] at h1
      have h2 := hcs (j / 1) hq (j % 1) hr
      rw [Nat.add_assoc, hd] at h2
      rw [h2, ← h1]
    have hnews1 : ∀ (o : Obj) j u, (l.flatMap E)[j]? = some u → (w.alloc o).cell? (a.add j) = some u := fun o j u hj => by
      have h1 := hnews j u hj
      have hlt := World.block_lt_of_cell? w _ h1
      rw [← h1]
      exact ((Below.refl w.heap.size w).alloc (Nat.le_refl _) o).cell hlt
    have hown := World.ownsRow_made (e := 9) (size := 1) (base := w.heap.size) w #[] 0 (Nat.le_refl _) (by decide) (by simp)
    have hbe : Below w.heap.size w (w.alloc (.cells #[] 9)) := (Below.refl _ _).alloc (Nat.le_refl _) _
    have HH := Lib.hid (And.intro hown hbe); clear hown hbe
    have HL := Lib.hid hlen; clear hlen
    have HO := Lib.hid hone; clear hone
    have HW := Lib.hid hnews1; clear hnews1 hnews
    have HI := Lib.hid (And.intro hi (And.intro hz0 (And.intro hz1 hz2))); clear hi hz0 hz1 hz2
    generalize l.flatMap E = xs at *
    generalize l.length = n at *
    have hnl : ∀ W n c, (binOp .eql 24 (.slice (some a) n c) (.slice none 0 0)).run Tryz.prog W = .ok (.bool false) W := fun W n c => Lib.run_eql_slice_nil W 24 9 (some a) n c 0 0 Tryz.underlying24
    go_enter Tryz.func84, Tryz.ntmps84
    go_wp2_with (at_builtin; refine wpList_append_own _ rfl _ _ 24 rfl w.heap.size 9 i0 (.string ⟨#[]⟩) 1 16 Tryz.underlying24 HI.out.1 HI.out.2.1 HI.out.2.2.1 HI.out.2.2.2 rfl (by decide) _ _ _ rfl HH.out.1 a n c xs rfl HL.out (HW.out _) HO.out (by unfold maxLen; omega) (by omega) (by simp) ?_; intro v' w1 hown1 hgrow1 hnil1)
    have HP := Lib.hid (And.intro hown1 hgrow1); clear hown1 hgrow1 hnil1
    go_wp2_with fail
    go_ret
    refine ⟨_, rfl, ?_, HH.out.2.grown HP.out.2 (by simp) (fun k hk => ?_)⟩
    · have := HP.out.1
      simpa using this
    · have : w.heap.size = k := Option.some.inj hk
      omega
end Go.Proofs.YtmpgmgjokliceaaGreatDoor
/- The contract of swingleref01.Same: are two slices of texts alike? -/
set_option linter.unusedVariables false
set_option linter.unusedSimpArgs false
namespace Go.Proofs.YtmpgmgjokliceaaGreatDoor
open Go.RowKit
open Sw
/-- a text as it lies -/
def sE (t : ByteArray) : List Value := [.string t]
theorem beqT (s t : ByteArray) : (s.toList == t.toList) = decide (s = t) := by
  rw [ByteArray.toList_eq, ByteArray.toList_eq]
  by_cases h : s = t
  · subst h; simp
  · rw [decide_eq_false h, beq_eq_false_iff_ne]
    intro e
    apply h
    cases s; cases t
    congr 1
    exact Array.toList_inj.1 e
end Go.Proofs.YtmpgmgjokliceaaGreatDoor
/- slices.Clone of a row of api.Item: the same elements, in memory of the call's own. -/
set_option linter.unusedVariables false
set_option linter.unusedSimpArgs false
namespace Go.Proofs.YtmpgmgjokliceaaGreatDoor
open Go Go.RowKit
open Sw
theorem infoEIT : (Tryz.prog.info? 70).map (fun i => (i.zero, i.size, i.bytes)) = some (some (.agg #[.string ⟨#[]⟩, .int .i64 0, .int .i64 0, .int .u32 0, .string ⟨#[]⟩]), 5, 56) := by kernel_rfl
end Go.Proofs.YtmpgmgjokliceaaGreatDoor
/- sorted.Map[string,swingle/api.Node]: what a map holds; find. -/
set_option linter.unusedVariables false
set_option linter.unusedSimpArgs false
namespace Go.Proofs.YtmpgmgjokliceaaGreatDoor
open Go Go.RowKit
open Sw
/-- an entry's cells -/
def eCIT (e : ByteArray × Nd) : List Value := [.string e.1, .int .i64 e.2.kind, .int .i64 e.2.mode, .int .u32 e.2.time, .string e.2.data]
theorem eCIT_len (e : ByteArray × Nd) : (eCIT e).length = 5 := rfl
theorem eCIT_one (e : ByteArray × Nd) : ∀ u ∈ eCIT e, u.oneCell' = true := by
  intro u hu
  simp only [eCIT, List.mem_cons, List.mem_append, List.not_mem_nil, or_false] at hu
  rcases hu with rfl | rfl | rfl | rfl | rfl <;> rfl
abbrev ordFIT : Value := .func (.func 79) #[] #[]
/-- the map in block bm holds the entries xs -/
structure SMapIT (w : World) (bm : Nat) (xs : List (ByteArray × Nd)) : Prop where
  row : ∃ v, Blk w bm 190 #[ordFIT, v] ∧ w.ownsRow 0 70 5 v xs.length (xs.flatMap eCIT)
  up : Up ordS xs
  ok : ∀ e ∈ xs, okS e.1
end Go.Proofs.YtmpgmgjokliceaaGreatDoor
/- slices.Reverse of a row of api.Item that the call owns. -/
set_option linter.unusedVariables false
set_option linter.unusedSimpArgs false
namespace Go.Proofs.YtmpgmgjokliceaaGreatDoor
open Go Go.RowKit
open Sw
set_option maxRecDepth 100000 in
set_option maxHeartbeats 4000000 in
theorem slReverseIT_any (w : World) (base : Nat) (v : Value) (n : Nat) (l : List (ByteArray × Nd)) (hl : l.length = n) (hn : n ≤ 1000000) (hown : w.ownsRow base 70 5 v n (l.flatMap eCIT)) :
    Calls Tryz.prog 164 #[v] w fun e w' => e = .returned (.tuple #[]) ∧ w'.ownsRow base 70 5 v n (l.reverse.flatMap eCIT) ∧ w.grownBy w' v.ownBlock := by
  have HO := Lib.hid hown
  have HL := Lib.hid hl; clear hl
  obtain ⟨A, c, rfl, hc1, hc2, _⟩ := SlV_of_any hown
  clear hown
  go_enter Tryz.func164, Tryz.ntmps164
  go_wp2_with fail
  go_loopw [2, 3] (fun iv jv wr => ∃ i : Nat, iv = .int .i64 i ∧ jv = .int .i64 ((n : Int) - 1 - i) ∧ 2 * i ≤ n + 1 ∧ wr.ownsRow base 70 5 (.slice A n c) n ((rvL i l).flatMap eCIT) ∧ w.grownBy wr (Value.slice A n c).ownBlock) (fun iv jv _ => (intOf jv - intOf iv + 1).toNat)
  case atStart => exact ⟨0, rfl, by simp, by omega, by rw [rvL_zero]; exact HO.out, grown_refl _ _⟩
  case round =>
    obtain ⟨i, rfl, rfl, hin, ho, hg⟩ := hrel
    have hrl := rvL_len i l
    have HR := Lib.hid (And.intro ho hg); clear ho hg
    by_cases hlt : (i : Int) < (n : Int) - 1 - i
    · obtain ⟨j, hj⟩ : ∃ j : Nat, (n : Int) - 1 - i = j := ⟨n - 1 - i, by omega⟩
      have hji : i < j := by omega
      have hjn : j < n := by omega
      have hjx : j = n - 1 - i := by omega
      obtain ⟨g, cap, cur, hA, hbg, hB, hnc, hcm, hcs, htk⟩ := own_form HR.out.1 (by omega)
      obtain ⟨rfl, rfl⟩ : A = some ⟨g, 0, none⟩ ∧ c = cap := by injection hA with e1 e2 e3; exact ⟨e1, e3⟩
      have hcell := fun (m : Nat) (hm : m < n) (q : Nat) (hq : q < 5) => (by
        have hm' : m < (rvL i l).length := by rw [hrl, HL.out]; exact hm
        have h1 := flat_get eCIT_len (rvL i l) m hm' q hq
        have h2 : m * 5 + q < n * 5 := by have : (m + 1) * 5 ≤ n * 5 := Nat.mul_le_mul_right _ hm; omega
        rw [hB.cell, ← Array.getElem?_toList, ← h1, ← htk, List.getElem?_take, if_pos h2] : wr.cell? ⟨g, m * 5 + q, none⟩ = (eCIT ((rvL i l)[m]'(by rw [hrl, HL.out]; exact hm)))[q]?)
      have hjl : j < (rvL i l).length := by rw [hrl, HL.out]; exact hjn
      have hil : i < (rvL i l).length := by rw [hrl, HL.out]; omega
      have hstep : rvL (i + 1) l = ((rvL i l).set i (rvL i l)[j]).set j (rvL i l)[i] := by
        have := rvL_step i l (by have := HL.out; omega)
        have hx : l.length - 1 - i = j := by have := HL.out; omega
        simp only [hx] at this
        exact this
      obtain ⟨x, hx⟩ : ∃ x, (rvL i l)[i] = x := ⟨_, rfl⟩
      obtain ⟨y, hy⟩ : ∃ y, (rvL i l)[j] = y := ⟨_, rfl⟩
      have hci := hcell i (by omega)
      have hcj := hcell j hjn
      simp only [hx] at hci
      simp only [hy] at hcj
      rw [hx, hy] at hstep
      have a0 : wr.cell? ⟨g, i * 5, none⟩ = _ := hci 0 (by omega)
      have a1 : wr.cell? ⟨g, i * 5 + 1, none⟩ = _ := hci 1 (by omega)
      have a2 : wr.cell? ⟨g, i * 5 + 2, none⟩ = _ := hci 2 (by omega)
      have a3 : wr.cell? ⟨g, i * 5 + 3, none⟩ = _ := hci 3 (by omega)
      have a4 : wr.cell? ⟨g, i * 5 + 4, none⟩ = _ := hci 4 (by omega)
      simp only [eCIT, List.getElem?_cons_succ, List.getElem?_cons_zero] at a0 a1 a2 a3 a4
      have b0 : wr.cell? ⟨g, j * 5, none⟩ = _ := hcj 0 (by omega)
      have b1 : wr.cell? ⟨g, j * 5 + 1, none⟩ = _ := hcj 1 (by omega)
      have b2 : wr.cell? ⟨g, j * 5 + 2, none⟩ = _ := hcj 2 (by omega)
      have b3 : wr.cell? ⟨g, j * 5 + 3, none⟩ = _ := hcj 3 (by omega)
      have b4 : wr.cell? ⟨g, j * 5 + 4, none⟩ = _ := hcj 4 (by omega)
      simp only [eCIT, List.getElem?_cons_succ, List.getElem?_cons_zero] at b0 b1 b2 b3 b4
      have fa0 := hB.frozen (i * 5)
      have fa1 := hB.frozen (i * 5 + 1)
      have fa2 := hB.frozen (i * 5 + 2)
      have fa3 := hB.frozen (i * 5 + 3)
      have fa4 := hB.frozen (i * 5 + 4)
      have fb0 := hB.frozen (j * 5)
      have fb1 := hB.frozen (j * 5 + 1)
      have fb2 := hB.frozen (j * 5 + 2)
      have fb3 := hB.frozen (j * 5 + 3)
      have fb4 := hB.frozen (j * 5 + 4)
      have HST := Lib.hid (by
        have h1 := own_setCells (eCIT y) (i * 5) wr _ HR.out.1 (by rw [eCIT_len]; omega)
        have f1 := flat_put eCIT_len (rvL i l) i hil y 0 (eCIT y) (by rw [eCIT_len]; omega) (by simp [eCIT_len])
        simp only [Nat.add_zero] at f1
        rw [f1] at h1
        have h2 := own_setCells (eCIT x) (j * 5) _ _ h1 (by rw [eCIT_len]; omega)
        have f2 := flat_put eCIT_len ((rvL i l).set i y) j (by rw [List.length_set]; exact hjl) x 0 (eCIT x) (by rw [eCIT_len]; omega) (by simp [eCIT_len])
        simp only [Nat.add_zero] at f2
        rw [f2, ← hstep] at h2
        exact And.intro h2 (grown_setCells (eCIT x) (j * 5) _ (grown_setCells (eCIT y) (i * 5) wr HR.out.2)))
      clear hcell hci hcj hstep hx hy hB htk hcs
      rw [hj]
      have q1 : (j : Int) < n := by omega
      have q2 : (i : Int) < n := by omega
      have q3 : (i : Int) < j := by omega
      have q4 : i < j := hji
      have HJ := Lib.hid hj; clear hj hjx
      go_wp2_with fail
      go_region
      all_goals
        go_wp2_with fail
        go_roundw
        case rel => exact ⟨i + 1, by go_num, by have := HJ.out; go_num, by omega, own_drew HST.out.1, grown_drew HST.out.2⟩
        case measure => simp [intOf]; omega
    · have hF : rvL i l = l.reverse := rvL_end i l (by have := HL.out; omega)
      rw [hF] at HR
      go_wp2_with fail
      go_end0
      exact ⟨rfl, HR.out.1, HR.out.2⟩
end Go.Proofs.YtmpgmgjokliceaaGreatDoor
/- slices.Insert of one element into a row of api.Item that the call owns. -/
set_option linter.unusedVariables false
set_option linter.unusedSimpArgs false
namespace Go.Proofs.YtmpgmgjokliceaaGreatDoor
open Go Go.RowKit
open Sw
/-- behind the call: a row with one more element -/
def InsPostIT (base n : Nat) (xs : List Value) (row : Option Nat) (w : World) (e : Ending) (w' : World) : Prop :=
  ∃ g cap, e = .returned (.slice (some ⟨g, 0, none⟩) (n + 1) cap) ∧ w'.ownsRow base 70 5 (.slice (some ⟨g, 0, none⟩) (n + 1) cap) (n + 1) xs ∧ w.grownBy w' row ∧ (row = some g ∨ w.heap.size ≤ g)
end Go.Proofs.YtmpgmgjokliceaaGreatDoor
