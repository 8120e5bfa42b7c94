/- Several texts, joined for the limit of sixty files; each one opens with its own comment. -/
import Derived.Test.YtlfeeiloijmagaaGreatDoorJoin10
import Derived.Test.YtlfeeiloijmagaaGreatDoorJoin14
import Derived.Test.YtlfeeiloijmagaaGreatDoorJoin1
import Derived.Test.YtlfeeiloijmagaaGreatDoorRows
import Derived.Deep.WholeRow
import Derived.Laws.BitsAllLaws
/- The reference's rows of items: Get, Under, Holds. -/
set_option linter.unusedVariables false
set_option linter.unusedSimpArgs false
namespace Sw
open Go
/-- what the reference's Get finds -/
def refGetT (l : List NE) (p : ByteArray) : Nd := ((l.find? fun e => decide (e.1 = p)).map (·.2)).getD ndZ
theorem refGetT_eq (l : List NE) (p : ByteArray) (h : Up ordS l) : refGetT l p = getT l p := by
  unfold refGetT getT
  rw [get_find ordS_ord p l h]
  congr 3
  funext e
  rw [Bool.eq_iff_iff]
  simp [ordS_ord.iff]
theorem refGetT_hit (l : List NE) (p : ByteArray) (i : Nat) (h : i < l.length) (hn : ∀ m (hm : m < l.length), m < i → ¬ l[m].1 = p) (hk : l[i].1 = p) : refGetT l p = l[i].2 := by
  unfold refGetT
  have hl : l = l.take i ++ l[i] :: l.drop (i + 1) := by rw [← List.drop_eq_getElem_cons h, List.take_append_drop]
  have hf : l.find? (fun e => decide (e.1 = p)) = some l[i] := by
    conv => lhs; rw [hl]
    rw [List.find?_append, List.find?_eq_none.2 (fun e he => by
      obtain ⟨m, hm, rfl⟩ := List.mem_iff_getElem.1 he
      rw [List.length_take] at hm
      rw [List.getElem_take]
      simpa using hn m (by omega) (by omega)), List.find?_cons_of_pos (by simp [hk])]
    rfl
  rw [hf]
  rfl
theorem refGetT_none (l : List NE) (p : ByteArray) (hn : ∀ m (hm : m < l.length), ¬ l[m].1 = p) : refGetT l p = ndZ := by
  unfold refGetT
  rw [List.find?_eq_none.2 (fun e he => by
    obtain ⟨m, hm, rfl⟩ := List.mem_iff_getElem.1 he
    simpa using hn m hm)]
  rfl
end Sw
namespace Go.Proofs.YtlfeeiloijmagaaGreatDoor
open Go Go.RowKit
open Sw
theorem infoIt : (Tryz.prog.info? 55).map (fun i => (i.zero, i.size, i.bytes)) = some (some (.agg #[.string ⟨#[]⟩, .int .i64 0, .int .i64 0, .int .u32 0, .string ⟨#[]⟩]), 5, 56) := by kernel_rfl
/-- a row of items of the call's own -/
def OwnIt (w : World) (base : Nat) (u : Value) (l : List NE) : Prop := w.ownsRow base 55 5 u l.length (l.flatMap eCSN)
theorem OwnIt.slv {w : World} {base : Nat} {u : Value} {l : List NE} (h : OwnIt w base u l) : SlV w 5 eCSN u l := SlV.of_own h eCSN_len (by decide)
theorem OwnIt.below {w w' : World} {base : Nat} {u : Value} {l : List NE} (h : OwnIt w base u l) (hb : Below w.heap.size w w') : OwnIt w' base u l := own_kept h hb
theorem OwnIt.zero {w : World} {b : Nat} {u : Value} {l : List NE} (h : OwnIt w b u l) : OwnIt w 0 u l := own_wide h (Nat.zero_le _)
theorem str_eq (a b : ByteArray) : (a.toList == b.toList) = decide (a = b) := by
  rw [Bool.eq_iff_iff, beq_iff_eq, decide_eq_true_eq, ByteArray.toList_eq, ByteArray.toList_eq]
  exact ⟨dat_inj, fun e => by rw [e]⟩
set_option maxRecDepth 100000 in
set_option maxHeartbeats 4000000 in
theorem ref16Get_any (w : World) (v : Value) (l : List NE) (p : ByteArray) (h : SlV w 5 eCSN v l) :
    Calls Tryz.prog 21 #[v, .string p] w fun e w' => e = .returned (.agg (refGetT l p).c) ∧ Below w.heap.size w w' := by
  obtain ⟨A, c, rfl, hc1, hc2, hsl⟩ := h
  obtain ⟨n, hn⟩ : ∃ n, l.length = n := ⟨_, rfl⟩
  rw [hn] at hc1 ⊢
  unfold maxLen at hc2
  have HL := Lib.hid hn; clear hn
  have HS := Lib.hid hsl; clear hsl
  have hb0 := (Below.refl w.heap.size w).alloc (Nat.le_refl _) (.cells #[.int .i64 0, .int .i64 0, .int .u32 0, .string ⟨#[]⟩] 38)
  have H0 := Lib.hid (And.intro hb0 (Blk.new w 38 #[.int .i64 0, .int .i64 0, .int .u32 0, .string ⟨#[]⟩])); clear hb0
  obtain ⟨G, hG⟩ : ∃ G, refGetT l p = G := ⟨_, rfl⟩
  rw [hG]
  have HG := Lib.hid hG; clear hG
  obtain ⟨T, hT⟩ : ∃ T, w.heap.size = T := ⟨_, rfl⟩
  rw [hT] at H0
  go_enter Tryz.func21, Tryz.ntmps21
  go_wp2_with fail
  go_loopw [9] (fun iv wr => ∃ i : Nat, i ≤ n ∧ iv = .int .i64 i ∧ (∀ m (hm : m < l.length), m < i → ¬ l[m].1 = p) ∧ Blk wr T 38 #[.int .i64 0, .int .i64 0, .int .u32 0, .string ⟨#[]⟩] ∧ Below T w wr) (fun iv _ => n - (intOf iv).toNat)
  case atStart => exact ⟨0, Nat.zero_le _, rfl, fun m h h' => absurd h' (Nat.not_lt_zero _), H0.out.2, H0.out.1⟩
  case round =>
    obtain ⟨i, hi, rfl, hall, hB, hb⟩ := hrel
    have HA := Lib.hid hall; clear hall
    by_cases hlt : i < n
    · have hiL : i < l.length := by have := HL.out; omega
      obtain ⟨b, off, rfl, hbb, hcs⟩ := (HS.out.below (B := w.heap.size) (by rw [hT]; exact hb) (Nat.le_refl _)) (by omega)
      have c0 := hcs i hiL 0 (by omega)
      have c1 := hcs i hiL 1 (by omega)
      have c2 := hcs i hiL 2 (by omega)
      have c3 := hcs i hiL 3 (by omega)
      have c4 := hcs i hiL 4 (by omega)
      simp only [eCSN, List.getElem?_cons_succ, List.getElem?_cons_zero, Nat.add_zero] at c0 c1 c2 c3 c4
      clear hcs
      have hi1 : (i : Int) < n := by omega
      have hse := str_eq l[i].1 p
      have hgh := fun hk => refGetT_hit l p i hiL HA.out hk
      have hgn := fun (hk : ¬ l[i].1 = p) m (hm : m < l.length) (h : m < i + 1) => (by
        by_cases h2 : m < i
        · exact HA.out m hm h2
        · obtain rfl : m = i := by omega
          exact hk : ¬ l[m].1 = p)
      obtain ⟨x, hx⟩ : ∃ x, l[i] = x := ⟨_, rfl⟩
      rw [hx] at hse
      simp only [hx] at c0 c1 c2 c3 c4 hgh hgn
      have hba := (Below.refl wr.heap.size wr).alloc (Nat.le_refl _) (.cells #[.string x.1, .int .i64 x.2.kind, .int .i64 x.2.mode, .int .u32 x.2.time, .string x.2.data] 55)
      have hB1 := hB.below hba hB.lt
      have hb1 := hb.trans (hba.mono (by rw [← hT]; exact hb.size))
      have HX := Lib.hid (And.intro hgh hgn); clear hgh hgn hx
      by_cases hk : x.1 = p
      · rw [decide_eq_true hk] at hse
        have hg := HX.out.1 hk
        rw [HG.out] at hg
        have x0 := hB1.cell 0
        have x1 := hB1.cell 1
        have x2 := hB1.cell 2
        have x3 := hB1.cell 3
        have f0 := hB1.frozen 0
        have f1 := hB1.frozen 1
        have f2 := hB1.frozen 2
        have f3 := hB1.frozen 3
        simp at x0 x1 x2 x3
        have HF := Lib.hid (And.intro hB1 (And.intro hb1 hg)); clear hB1 hb1 hg hba hB hb hk
        go_wp2_with fail
        refine bodyPost_ret (v := .agg #[.int .i64 x.2.kind, .int .i64 x.2.mode, .int .u32 x.2.time, .string x.2.data]) (results_cell_row rfl _ _ T 38 #[.int .i64 x.2.kind, .int .i64 x.2.mode, .int .u32 x.2.time, .string x.2.data] (0, 0) _ rfl ((((HF.out.1.put 0 (.int .i64 x.2.kind)).put 1 (.int .i64 x.2.mode)).put 2 (.int .u32 x.2.time)).put 3 (.string x.2.data)) Tryz.underlying38 rfl infoVSN) rfl ⟨by rw [HF.out.2.2]; rfl, ?_⟩
        exact ((((HF.out.2.1.setCell (p := ⟨T, 0, none⟩) (Nat.le_refl _) (.int .i64 x.2.kind)).setCell (p := ⟨T, 1, none⟩) (Nat.le_refl _) (.int .i64 x.2.mode)).setCell (p := ⟨T, 2, none⟩) (Nat.le_refl _) (.int .u32 x.2.time)).setCell (p := ⟨T, 3, none⟩) (Nat.le_refl _) (.string x.2.data)).mono (Nat.le_of_eq hT)
      · rw [decide_eq_false hk] at hse
        have HF := Lib.hid (And.intro hB1 (And.intro hb1 (HX.out.2 hk))); clear hB1 hb1 hba hB hb hk
        go_wp2_with fail
        go_roundw
        case rel => exact ⟨i + 1, by omega, by go_num, HF.out.2.2, HF.out.1, HF.out.2.1⟩
        case measure => simp [intOf]; omega
    · obtain rfl : i = n := by omega
      have hg := refGetT_none l p (fun m hm => HA.out m hm (by have := HL.out; omega))
      rw [HG.out] at hg
      have x0 := hB.cell 0
      have x1 := hB.cell 1
      have x2 := hB.cell 2
      have x3 := hB.cell 3
      have f0 := hB.frozen 0
      have f1 := hB.frozen 1
      have f2 := hB.frozen 2
      have f3 := hB.frozen 3
      simp at x0 x1 x2 x3
      have HF := Lib.hid (And.intro hB (And.intro hb hg)); clear hB hb hg
      go_wp2_with fail
      refine bodyPost_ret (v := .agg #[.int .i64 0, .int .i64 0, .int .u32 0, .string ⟨#[]⟩]) (results_cell_row rfl _ _ T 38 #[.int .i64 0, .int .i64 0, .int .u32 0, .string ⟨#[]⟩] (0, 0) _ rfl ((((HF.out.1.put 0 (.int .i64 0)).put 1 (.int .i64 0)).put 2 (.int .u32 0)).put 3 (.string ⟨#[]⟩)) Tryz.underlying38 rfl infoVSN) rfl ⟨by rw [HF.out.2.2]; rfl, ?_⟩
      exact ((((HF.out.2.1.setCell (p := ⟨T, 0, none⟩) (Nat.le_refl _) (.int .i64 0)).setCell (p := ⟨T, 1, none⟩) (Nat.le_refl _) (.int .i64 0)).setCell (p := ⟨T, 2, none⟩) (Nat.le_refl _) (.int .u32 0)).setCell (p := ⟨T, 3, none⟩) (Nat.le_refl _) (.string ⟨#[]⟩)).mono (Nat.le_of_eq hT)
set_option maxRecDepth 100000 in
set_option maxHeartbeats 4000000 in
theorem ref16Under_any (w : World) (p q : ByteArray) (hq : q.size ≤ 90000) :
    Calls Tryz.prog 114 #[.string p, .string q] w fun e w' => e = .returned (.bool (inS (upsS q) p)) ∧ Below w.heap.size w w' := by
  have HU := Lib.hid (refUps_any w q hq)
  obtain ⟨R, hR⟩ : ∃ R, inS (upsS q) p = R := ⟨_, rfl⟩
  rw [hR]
  have HR := Lib.hid hR; clear hR
  obtain ⟨l, hl⟩ : ∃ l, upsS q = l := ⟨_, rfl⟩
  rw [hl] at HU HR
  clear hl hq
  go_enter Tryz.func114, Tryz.ntmps114
  go_wp2_with fail
  refine HU.out.mono ?_
  rintro e w1 ⟨v, rfl, s, hb1⟩
  obtain ⟨A, c, rfl, hc1, hc2, hsl⟩ := s
  obtain ⟨n, hn⟩ : ∃ n, l.length = n := ⟨_, rfl⟩
  rw [hn] at hc1 ⊢
  unfold maxLen at hc2
  have HL := Lib.hid hn; clear hn
  have HS := Lib.hid hsl; clear hsl
  have HB := Lib.hid hb1; clear hb1 HU
  go_wp2_with fail
  go_loopw [6, 10] (fun _ iv wr => ∃ i : Nat, i ≤ n ∧ iv = .int .i64 i ∧ (∀ m (hm : m < l.length), m < i → ¬ l[m] = p) ∧ w1 = wr) (fun _ iv _ => n - (intOf iv).toNat)
  case atStart => exact ⟨0, Nat.zero_le _, rfl, fun m h h' => absurd h' (Nat.not_lt_zero _), rfl⟩
  case round =>
    obtain ⟨i, hi, rfl, hall, rfl⟩ := hrel
    have HA := Lib.hid hall; clear hall
    by_cases hlt : i < n
    · have hiL : i < l.length := by have := HL.out; omega
      obtain ⟨b, off, rfl, hbb, hcs⟩ := HS.out (by omega)
      have c0 := hcs i hiL 0 (by omega)
      simp [bE] at c0
      clear hcs
      have hi1 : (i : Int) < n := by omega
      have hse := str_eq l[i] p
      have hgh := fun (hk : l[i] = p) => (by
        rw [← HR.out]
        exact (inS_iff l p).2 (by rw [← hk]; exact List.getElem_mem hiL) : R = true)
      have hgn := fun (hk : ¬ l[i] = p) m (hm : m < l.length) (h : m < i + 1) => (by
        by_cases h2 : m < i
        · exact HA.out m hm h2
        · obtain rfl : m = i := by omega
          exact hk : ¬ l[m] = p)
      obtain ⟨x, hx⟩ : ∃ x, l[i] = x := ⟨_, rfl⟩
      rw [hx] at hse
      simp only [hx] at c0 hgh hgn
      have HX := Lib.hid (And.intro hgh hgn); clear hgh hgn hx
      by_cases hk : x = p
      · rw [decide_eq_true hk] at hse
        have HF := Lib.hid (HX.out.1 hk)
        have HSE := Lib.hid hse
        subst hk
        go_wp2_with fail
        go_ret
        exact ⟨by rw [HF.out]; rfl, HB.out⟩
      · rw [decide_eq_false hk] at hse
        have HF := Lib.hid (HX.out.2 hk); clear hk
        go_wp2_with fail
        go_roundw
        case rel => exact ⟨i + 1, by omega, by go_num, HF.out, by trivial⟩
        case measure => simp [intOf]; omega
    · obtain rfl : i = n := by omega
      have hg : R = false := by
        rw [← HR.out]
        cases hq : inS l p with
        | false => rfl
        | true =>
          obtain ⟨m, hm, he⟩ := List.mem_iff_getElem.1 ((inS_iff l p).1 hq)
          exact absurd he (HA.out m hm (by have := HL.out; omega))
      have HF := Lib.hid hg; clear hg
      go_wp2_with fail
      go_ret
      exact ⟨by rw [HF.out]; rfl, HB.out⟩
set_option maxRecDepth 100000 in
set_option maxHeartbeats 4000000 in
theorem ref16Holds_any (w : World) (v : Value) (l : List NE) (p : ByteArray) (h : SlV w 5 eCSN v l) (hok : ∀ e ∈ l, e.1.size ≤ 90000) :
    Calls Tryz.prog 82 #[v, .string p] w fun e w' => e = .returned (.bool (l.any fun e => inS (upsS e.1) p)) ∧ Below w.heap.size w w' := by
  obtain ⟨A, c, rfl, hc1, hc2, hsl⟩ := h
  obtain ⟨n, hn⟩ : ∃ n, l.length = n := ⟨_, rfl⟩
  rw [hn] at hc1 ⊢
  unfold maxLen at hc2
  have HL := Lib.hid hn; clear hn
  have HS := Lib.hid hsl; clear hsl
  have HOK := Lib.hid hok; clear hok
  obtain ⟨R, hR⟩ : ∃ R, (l.any fun e => inS (upsS e.1) p) = R := ⟨_, rfl⟩
  rw [hR]
  have HR := Lib.hid hR; clear hR
  go_enter Tryz.func82, Tryz.ntmps82
  go_wp2_with fail
  go_loopw [9] (fun iv wr => ∃ i : Nat, i ≤ n ∧ iv = .int .i64 i ∧ (∀ m (hm : m < l.length), m < i → inS (upsS l[m].1) p = false) ∧ Below w.heap.size w wr) (fun iv _ => n - (intOf iv).toNat)
  case atStart => exact ⟨0, Nat.zero_le _, rfl, fun m h h' => absurd h' (Nat.not_lt_zero _), Below.refl _ _⟩
  case round =>
    obtain ⟨i, hi, rfl, hall, hb⟩ := hrel
    have HA := Lib.hid hall; clear hall
    by_cases hlt : i < n
    · have hiL : i < l.length := by have := HL.out; omega
      obtain ⟨b, off, rfl, hbb, hcs⟩ := (HS.out.below hb (Nat.le_refl _)) (by omega)
      have c0 := hcs i hiL 0 (by omega)
      have c1 := hcs i hiL 1 (by omega)
      have c2 := hcs i hiL 2 (by omega)
      have c3 := hcs i hiL 3 (by omega)
      have c4 := hcs i hiL 4 (by omega)
      simp only [eCSN, List.getElem?_cons_succ, List.getElem?_cons_zero, Nat.add_zero] at c0 c1 c2 c3 c4
      clear hcs
      have hi1 : (i : Int) < n := by omega
      have hgh := fun (hk : inS (upsS l[i].1) p = true) => (by
        rw [← HR.out, List.any_eq_true]
        exact ⟨l[i], List.getElem_mem hiL, hk⟩ : R = true)
      have hgn := fun (hk : inS (upsS l[i].1) p = false) m (hm : m < l.length) (h : m < i + 1) => (by
        by_cases h2 : m < i
        · exact HA.out m hm h2
        · obtain rfl : m = i := by omega
          exact hk : inS (upsS l[m].1) p = false)
      have hxk := HOK.out l[i] (List.getElem_mem hiL)
      obtain ⟨x, hx⟩ : ∃ x, l[i] = x := ⟨_, rfl⟩
      rw [hx] at hxk
      simp only [hx] at c0 c1 c2 c3 c4 hgh hgn
      have hba := (Below.refl wr.heap.size wr).alloc (Nat.le_refl _) (.cells #[.string x.1, .int .i64 x.2.kind, .int .i64 x.2.mode, .int .u32 x.2.time, .string x.2.data] 55)
      have HU := Lib.hid (ref16Under_any (wr.alloc (.cells #[.string x.1, .int .i64 x.2.kind, .int .i64 x.2.mode, .int .u32 x.2.time, .string x.2.data] 55)) p x.1 hxk)
      have HB := Lib.hid (hb.trans (hba.mono hb.size))
      have HX := Lib.hid (And.intro hgh hgn); clear hgh hgn hx hba hb hxk
      obtain ⟨r, hr⟩ : ∃ r, inS (upsS x.1) p = r := ⟨_, rfl⟩
      rw [hr] at HU HX
      clear hr
      cases r with
      | true =>
        have hrt := HX.out.1 (by trivial)
        have HRT := Lib.hid hrt; clear hrt HX
        go_wp2_with fail
        refine HU.out.mono ?_
        rintro e w2 ⟨rfl, hb2⟩
        have HB2 := Lib.hid (HB.out.trans (hb2.mono HB.out.size)); clear hb2
        go_wp2_with fail
        go_ret
        exact ⟨by rw [HRT.out]; rfl, HB2.out⟩
      | false =>
        have hrt := HX.out.2 (by trivial)
        have HRT := Lib.hid hrt; clear hrt HX
        go_wp2_with fail
        refine HU.out.mono ?_
        rintro e w2 ⟨rfl, hb2⟩
        have HB2 := Lib.hid (HB.out.trans (hb2.mono HB.out.size)); clear hb2
        go_wp2_with fail
        go_roundw
        case rel => exact ⟨i + 1, by omega, by go_num, HRT.out, HB2.out⟩
        case measure => simp [intOf]; omega
    · obtain rfl : i = n := by omega
      have hg : R = false := by
        rw [← HR.out, List.any_eq_false]
        intro e he
        obtain ⟨m, hm, rfl⟩ := List.mem_iff_getElem.1 he
        rw [HA.out m hm (by have := HL.out; omega)]
        simp
      have HF := Lib.hid (And.intro hg hb); clear hg hb
      go_wp2_with fail
      go_ret
      exact ⟨by rw [HF.out.1]; rfl, HF.out.2⟩
end Go.Proofs.YtlfeeiloijmagaaGreatDoor
/- The law's Light: are the steps few and small? -/
set_option linter.unusedVariables false
set_option linter.unusedSimpArgs false
namespace Go.Proofs.YtlfeeiloijmagaaGreatDoor
open Go Go.RowKit
open Sw
/-- a small step -/
def SmallE (e : NE) : Prop := e.1.size ≤ 100 ∧ e.2.data.size ≤ 500
set_option maxRecDepth 100000 in
set_option maxHeartbeats 4000000 in
theorem light16_any (w : World) (v : Value) (l : List NE) (h : SlV w 5 eCSN v l) (hsz : ∀ e ∈ l, e.1.size ≤ maxLen ∧ e.2.data.size ≤ maxLen) :
    Calls Tryz.prog 14 #[v] w fun e w' => ∃ R : Bool, e = .returned (.bool R) ∧ (R = true → l.length ≤ 30 ∧ ∀ e ∈ l, SmallE e) ∧ Below w.heap.size w w' := by
  obtain ⟨A, c, rfl, hc1, hc2, hsl⟩ := h
  obtain ⟨n, hn⟩ : ∃ n, l.length = n := ⟨_, rfl⟩
  rw [hn] at hc1 ⊢
  unfold maxLen at hc2 hsz
  have HL := Lib.hid hn; clear hn
  have HS := Lib.hid hsl; clear hsl
  have HZ := Lib.hid hsz; clear hsz
  by_cases h30 : n ≤ 30
  · go_enter Tryz.func14, Tryz.ntmps14
    go_wp2_with fail
    go_loopw [4, 10] (fun _ iv wr => ∃ i : Nat, i ≤ n ∧ iv = .int .i64 i ∧ (∀ k (hk : k < l.length), k < i → SmallE l[k]) ∧ Below w.heap.size w wr) (fun _ iv _ => n - (intOf iv).toNat)
    case atStart => exact ⟨0, Nat.zero_le _, rfl, fun k _ h => absurd h (Nat.not_lt_zero _), Below.refl _ _⟩
    case round =>
      obtain ⟨i, hi, rfl, hall, hb⟩ := hrel
      have HA := Lib.hid hall; clear hall
      by_cases hlt : i < n
      · have hiL : i < l.length := by have := HL.out; omega
        obtain ⟨b, off, rfl, hbb, hcs⟩ := (HS.out.below hb (Nat.le_refl _)) (by omega)
        have c0 := hcs i hiL 0 (by omega)
        have c1 := hcs i hiL 1 (by omega)
        have c2 := hcs i hiL 2 (by omega)
        have c3' := hcs i hiL 3 (by omega)
        have c4 := hcs i hiL 4 (by omega)
        simp only [eCSN, List.getElem?_cons_succ, List.getElem?_cons_zero, Nat.add_zero] at c0 c1 c2 c3' c4
        clear hcs
        have hi1 : (i : Int) < n := by omega
        obtain ⟨hz1, hz2⟩ := HZ.out l[i] (List.getElem_mem hiL)
        obtain ⟨x, hx⟩ : ∃ x, l[i] = x := ⟨_, rfl⟩
        simp only [hx] at c0 c1 c2 c3' c4 hz1 hz2
        have HX := Lib.hid hx; clear hx
        have HB := Lib.hid (hb.alloc hb.size (.cells #[.string x.1, .int .i64 x.2.kind, .int .i64 x.2.mode, .int .u32 x.2.time, .string x.2.data] 55)); clear hb
        by_cases s1 : x.1.size ≤ 100
        · by_cases s2 : x.2.data.size ≤ 500
          · have s1' : (x.1.size : Int) ≤ 100 := by omega
            have s2' : (x.2.data.size : Int) ≤ 500 := by omega
            go_wp2_with fail
            go_roundw
            case rel => exact ⟨i + 1, by omega, by go_num, fun k hk hki => by
              by_cases e : k = i
              · subst e; rw [HX.out]; exact ⟨s1, s2⟩
              · exact HA.out k hk (by omega), HB.out⟩
            case measure => simp [intOf]; omega
          · have s1' : (x.1.size : Int) ≤ 100 := by omega
            have s2' : (500 : Int) < x.2.data.size := by omega
            go_wp2_with fail
            go_ret
            exact ⟨false, rfl, fun h => absurd h (by decide), HB.out⟩
        · have s1' : (100 : Int) < x.1.size := by omega
          go_wp2_with fail
          go_ret
          exact ⟨false, rfl, fun h => absurd h (by decide), HB.out⟩
      · obtain rfl : i = n := by omega
        have HB := Lib.hid hb; clear hb
        go_wp2_with fail
        go_ret
        exact ⟨true, rfl, fun _ => ⟨h30, fun e he => by
          obtain ⟨k, hk, rfl⟩ := List.mem_iff_getElem.1 he
          exact HA.out k hk (by have := HL.out; omega)⟩, HB.out⟩
  · have h31 : (30 : Int) < n := by omega
    go_enter Tryz.func14, Tryz.ntmps14
    go_wp2_with fail
    go_ret
    exact ⟨false, rfl, fun h => absurd h (by decide), Below.refl _ _⟩
end Go.Proofs.YtlfeeiloijmagaaGreatDoor
/- Arguments that are rows of items, opened. -/
set_option linter.unusedVariables false
namespace Go.Proofs.YtlfeeiloijmagaaGreatDoor
open Go Go.ChangeShapes Go.WideShapes Go.ChangeAt Go.RowKit
open Sw
/-- an item that came in -/
def NEIn (e : NE) : Prop := e.1.size ≤ maxLen ∧ NdIn e.2
set_option maxRecDepth 100000 in
theorem dec_nodeI {H : Type} {enc : TypeId × Value → H} {w : World} (fuel : Nat) (cs : List Value) (x : DataW H × List MemPlace) (h : DataW.trod enc Tryz.prog w 0 (fun _ => true) true fuel 38 cs = some x) :
    ∃ n : Nd, cs = [.int .i64 n.kind, .int .i64 n.mode, .int .u32 n.time, .string n.data] ∧ NdIn n := by
  obtain ⟨hl, hff⟩ := dec_fields Tryz.underlying38 (by kernel_rfl) (by kernel_rfl) h
  match cs, hl with
  | [c0, c1, c2, c3], _ =>
    obtain ⟨v0, n0, y0, e0, h0⟩ := hff 0 _ rfl
    obtain ⟨v1, n1, y1, e1, h1⟩ := hff 1 _ rfl
    obtain ⟨v2, n2, y2, e2, h2⟩ := hff 2 _ rfl
    obtain ⟨v3, n3, y3, e3, h3⟩ := hff 3 _ rfl
    simp at e0 e1 e2 e3
    subst e0 e1 e2 e3
    obtain ⟨k0, ek0, _, _⟩ := DataW.trod_int Tryz.underlying3 h0
    obtain ⟨k1, ek1, _, _⟩ := DataW.trod_int Tryz.underlying3 h1
    obtain ⟨k2, ek2, _, wk⟩ := DataW.trod_int Tryz.underlying36 h2
    obtain ⟨s, hs, _, hl⟩ := DataW.trod_string Tryz.underlying9 h3
    obtain ⟨b0, b1⟩ := bounds_u32 wk
    simp at ek0 ek1 ek2 hs
    subst ek0 ek1 ek2 hs
    exact ⟨⟨k0, k1, k2, s⟩, rfl, b0, by show k2 < 4294967296; omega, hl⟩
set_option maxRecDepth 100000 in
theorem dec_item {H : Type} {enc : TypeId × Value → H} {w : World} (fuel : Nat) (cs : List Value) (x : DataW H × List MemPlace) (h : DataW.trod enc Tryz.prog w 0 (fun _ => true) true fuel 55 cs = some x) :
    ∃ e : NE, cs = eCSN e ∧ NEIn e := by
  obtain ⟨y0, y1, n, _, hl, h0, h1⟩ := trod_struct2 Tryz.underlying55 h
  have hl5 : cs.length = 5 := hl.trans (by kernel_rfl)
  match cs, hl5 with
  | [c0, c1, c2, c3, c4], _ =>
    rw [show Tryz.prog.cellsOf 9 = 1 by kernel_rfl] at h0
    rw [show Tryz.prog.cellsOf 38 = 4 by kernel_rfl] at h1
    simp only [List.drop_zero, List.drop_succ_cons, List.take_succ_cons, List.take_zero] at h0 h1
    obtain ⟨s, hs, _, hsz⟩ := DataW.trod_string Tryz.underlying9 h0
    simp at hs
    subst hs
    obtain ⟨m, hm, hin⟩ := dec_nodeI _ _ _ h1
    simp at hm
    obtain ⟨rfl, rfl, rfl, rfl⟩ := hm
    exact ⟨(s, m), rfl, hsz, hin⟩
end Go.Proofs.YtlfeeiloijmagaaGreatDoor
/- Plain laws of layer 2: the sum's steps on numbers. No program in sight. -/
set_option linter.unusedVariables false
namespace Sw
def poly : Nat := 3988292384
/-- one bit's step -/
def stp (x : Nat) : Nat := if x % 2 = 1 then (x / 2) ^^^ poly else x / 2
def stpN : Nat → Nat → Nat
  | 0, x => x
  | k + 1, x => stp (stpN k x)
/-- the state behind a byte -/
@[irreducible] def byteS (s b : Nat) : Nat := stpN 8 (s ^^^ b)
theorem byteS_def (s b : Nat) : byteS s b = stpN 8 (s ^^^ b) := by unfold byteS; rfl
/-- the state behind a text -/
def feedS : Nat → List UInt8 → Nat
  | s, [] => s
  | s, b :: l => feedS (byteS s b.toNat) l
/-- the sum of a text -/
def ofS (l : List UInt8) : Nat := 4294967295 - feedS 4294967295 l
theorem poly_lt : poly < 2 ^ 32 := by decide
theorem stp_lt (x : Nat) (h : x < 2 ^ 32) : stp x < 2 ^ 32 := by
  unfold stp
  split
  · exact Nat.xor_lt_two_pow (by omega) poly_lt
  · omega
theorem stpN_lt (k x : Nat) (h : x < 2 ^ 32) : stpN k x < 2 ^ 32 := by
  induction k with
  | zero => exact h
  | succ k ih => exact stp_lt _ ih
theorem byteS_lt (s b : Nat) (hs : s < 2 ^ 32) (hb : b < 2 ^ 32) : byteS s b < 2 ^ 32 := by rw [byteS_def]; exact stpN_lt _ _ (Nat.xor_lt_two_pow hs hb)
theorem feedS_lt (l : List UInt8) : ∀ (s : Nat), s < 2 ^ 32 → feedS s l < 2 ^ 32 := by
  induction l with
  | nil => intro s h; exact h
  | cons b l ih =>
    intro s h
    have h1 := byteS_lt s b.toNat h (Nat.lt_trans b.toNat_lt (by decide))
    have h2 := ih _ h1
    rw [feedS]
    exact h2
theorem feedS_append (s : Nat) (l m : List UInt8) : feedS s (l ++ m) = feedS (feedS s l) m := by
  induction l generalizing s with
  | nil => rfl
  | cons b l ih => rw [List.cons_append, feedS, ih, feedS]
theorem feedS_cons (s : Nat) (b : UInt8) (m : List UInt8) : feedS s (b :: m) = feedS (byteS s b.toNat) m := by rw [feedS]
theorem xor_mod2 (a b : Nat) : (a ^^^ b) % 2 = (a % 2) ^^^ (b % 2) := by
  have h := Nat.xor_mod_two_pow (a := a) (b := b) (n := 1)
  rw [Nat.pow_one] at h
  exact h
theorem xor_div2 (a b : Nat) : (a ^^^ b) / 2 = (a / 2) ^^^ (b / 2) := by
  have := Nat.shiftRight_xor_distrib (i := 1) (a := a) (b := b)
  simpa [Nat.shiftRight_eq_div_pow] using this
theorem stp_zero : stp 0 = 0 := by decide
theorem stp_xor (a b : Nat) : stp (a ^^^ b) = stp a ^^^ stp b := by
  unfold stp
  rw [xor_mod2, xor_div2]
  have ha : a % 2 = 0 ∨ a % 2 = 1 := by omega
  have hb : b % 2 = 0 ∨ b % 2 = 1 := by omega
  rcases ha with ha | ha <;> rcases hb with hb | hb <;> rw [ha, hb] <;> simp
  · rw [Nat.xor_assoc]
  · rw [Nat.xor_assoc, Nat.xor_assoc, Nat.xor_comm poly (b / 2)]
  · rw [Nat.xor_assoc, ← Nat.xor_assoc poly, Nat.xor_comm poly (b / 2), Nat.xor_assoc, Nat.xor_self, Nat.xor_zero]
theorem stpN_xor (k a b : Nat) : stpN k (a ^^^ b) = stpN k a ^^^ stpN k b := by
  induction k with
  | zero => rfl
  | succ k ih => rw [stpN, stpN, stpN, ih, stp_xor]
theorem stpN_zero (k : Nat) : stpN k 0 = 0 := by
  induction k with
  | zero => rfl
  | succ k ih => rw [stpN, ih, stp_zero]
/-- a number that is a multiple of 2^k is only shifted -/
theorem stpN_shift (k h : Nat) : stpN k (2 ^ k * h) = h := by
  induction k generalizing h with
  | zero => simp [stpN]
  | succ k ih =>
    have e : 2 ^ (k + 1) * h = 2 ^ k * (2 * h) := by rw [Nat.pow_succ, Nat.mul_assoc]
    rw [stpN, e, ih (2 * h)]
    unfold stp
    rw [if_neg (by omega)]
    omega
theorem xor_hi_lo (x : Nat) : (2 ^ 8 * (x / 256)) ^^^ (x % 256) = x := by
  have h := Nat.two_pow_add_eq_or_of_lt (i := 8) (b := x % 256) (by omega) (x / 256)
  have h2 : 2 ^ 8 * (x / 256) ^^^ x % 256 = 2 ^ 8 * (x / 256) + x % 256 := by
    have e := Nat.two_pow_add_eq_or_of_lt (i := 8) (b := x % 256) (by omega) (x / 256)
    rw [e]
    apply Nat.eq_of_testBit_eq
    intro i
    rw [Nat.testBit_xor, Nat.testBit_or, Nat.testBit_two_pow_mul]
    by_cases hi : 8 ≤ i
    · have : (x % 256).testBit i = false := Nat.testBit_lt_two_pow (Nat.lt_of_lt_of_le (Nat.mod_lt x (by omega)) (by
        calc 256 = 2 ^ 8 := rfl
          _ ≤ 2 ^ i := Nat.pow_le_pow_right (by omega) hi))
      simp [this]
    · simp [hi]
  omega
/-- the table's step is the byte's -/
theorem table_step (s b : Nat) (hb : b < 256) : stpN 8 ((s ^^^ b) % 256) ^^^ (s / 256) = byteS s b := by
  have e := xor_hi_lo (s ^^^ b)
  have hd : (s ^^^ b) / 256 = s / 256 := by
    have h := Nat.shiftRight_xor_distrib (i := 8) (a := s) (b := b)
    simp [Nat.shiftRight_eq_div_pow] at h
    have h0 : b / 256 = 0 := by omega
    rw [h, h0, Nat.xor_zero]
  rw [byteS_def, ← e, stpN_xor, stpN_shift, hd, Nat.xor_comm]
  congr 1
  have h2 : ((2 ^ 8 * (s / 256) ^^^ (s ^^^ b) % 256)) % 256 = (s ^^^ b) % 256 := by rw [← hd, e]
  rw [h2]
/-- the reference's bit -/
def refBit (s bit : Nat) : Nat := if (s + bit) % 2 = 1 then (s / 2) ^^^ poly else s / 2
def refN : Nat → Nat → Nat → Nat
  | 0, s, _ => s
  | k + 1, s, b => refBit (refN k s b) (b / 2 ^ k % 2)
theorem stpN_ref (s b k : Nat) : stpN k (s ^^^ b) = refN k s b ^^^ (b / 2 ^ k) := by
  induction k with
  | zero => simp [stpN, refN]
  | succ k ih =>
    rw [stpN, ih, refN]
    generalize refN k s b = x
    have e : b / 2 ^ (k + 1) = b / 2 ^ k / 2 := by rw [Nat.pow_succ, Nat.div_div_eq_div_mul]
    rw [e]
    generalize b / 2 ^ k = y
    unfold stp refBit
    rw [xor_mod2, xor_div2]
    have hx : x % 2 = 0 ∨ x % 2 = 1 := by omega
    have hy : y % 2 = 0 ∨ y % 2 = 1 := by omega
    rcases hx with hx | hx <;> rcases hy with hy | hy <;> rw [hx, hy] <;> simp [Nat.add_mod, hx]
    · rw [Nat.xor_assoc, Nat.xor_assoc, Nat.xor_comm poly]
    · rw [Nat.xor_assoc, Nat.xor_assoc, Nat.xor_comm poly]
theorem refN_8 (s b : Nat) (hb : b < 256) : refN 8 s b = byteS s b := by
  have h := stpN_ref s b 8
  have h0 : b / 2 ^ 8 = 0 := by omega
  rw [h0, Nat.xor_zero] at h
  rw [byteS_def]
  exact h.symm
theorem refN_lt (k s b : Nat) (hs : s < 2 ^ 32) : refN k s b < 2 ^ 32 := by
  induction k with
  | zero => exact hs
  | succ k ih =>
    rw [refN]
    unfold refBit
    split
    · exact Nat.xor_lt_two_pow (by omega) poly_lt
    · omega
theorem not_xor (x : Nat) (h : x < 2 ^ 32) : 4294967295 - x = x ^^^ 4294967295 := by
  have e : 2 ^ 32 - (x + 1) = x ^^^ (2 ^ 32 - 1) := by
    apply Nat.eq_of_testBit_eq
    intro i
    rw [Nat.testBit_two_pow_sub_succ h, Nat.testBit_xor, Nat.testBit_two_pow_sub_one]
    by_cases hi : i < 32
    · simp [hi]
    · have : x.testBit i = false := Nat.testBit_lt_two_pow (Nat.lt_of_lt_of_le h (Nat.pow_le_pow_right (by omega) (by omega)))
      simp [hi, this]
  have e2 : 2 ^ 32 - 1 = 4294967295 := rfl
  rw [e2] at e
  omega
end Sw

/- The contract of sum.Made: the table of the states behind all bytes. -/
set_option linter.unusedVariables false
namespace Go.Proofs.YtlfeeiloijmagaaGreatDoor
open Go.RowKit
open Sw
/-- a row of cells is the table -/
def IsTab (cs : Array Value) : Prop := cs.size = 256 ∧ ∀ i, i < 256 → cs[i]? = some (.int .u32 (stpN 8 i : Nat))
theorem info_tab : ∃ v : Array Value, (Tryz.prog.info? 199).map (fun i => (i.zero, i.size)) = some (some (.agg v), 256) ∧ v.size = 256 := ⟨Array.replicate 256 (.int .u32 0), by kernel_rfl, by kernel_rfl⟩
theorem stp_walk_odd (x : Nat) (hx : x < 4294967296) (h : x % 2 = 1) : bits .xor .u32 ((x : Int) / 2) 3988292384 = (stp x : Nat) := by
  have e : ((x : Int) / 2) = ((x / 2 : Nat) : Int) := by omega
  rw [e]
  have := u32_xor_nat (x / 2) 3988292384 (by omega) (by omega)
  rw [stp, if_pos h, poly]
  exact this
theorem stp_walk_even (x : Nat) (h : ¬ x % 2 = 1) : (x : Int) / 2 = (stp x : Nat) := by
  rw [stp, if_neg h]; omega
theorem and_walk (x : Nat) (hx : x < 4294967296) : bits .and .u32 (x : Int) 1 = ((x % 2 : Nat) : Int) := by
  have := u32_and_nat x 1 hx (by omega)
  rw [Nat.and_one_is_mod] at this
  exact this
set_option maxRecDepth 100000 in
set_option maxHeartbeats 1000000 in
theorem made_any (w : World) : Calls Tryz.prog 158 #[] w fun e w' => ∃ cs, e = .returned (.agg cs) ∧ IsTab cs ∧ Below w.heap.size w w' := by
  obtain ⟨v, hv, hvs⟩ := info_tab
  obtain ⟨hz, hzi⟩ := zero_of_info hv
  have HV := Lib.hid hvs; clear hvs
  have HZI := Lib.hid hzi; clear hzi hv
  go_enter Tryz.func158, Tryz.ntmps158
  go_wp2
  clear hz
  go_loopw [1, 2, 3] (fun _ _ t wr => ∃ k : Nat, k ≤ 256 ∧ t = .int .i64 k ∧ (∃ cs : Array Value, Blk wr w.heap.size 199 cs ∧ cs.size = 256 ∧ ∀ i, i < k → cs[i]? = some (.int .u32 (stpN 8 i : Nat))) ∧ Below w.heap.size w wr) (fun _ _ t _ => 256 - (intOf t).toNat)
  case atStart => exact ⟨0, Nat.zero_le _, rfl, ⟨_, Blk.new _ _ _, HV.out, fun i hi => by omega⟩, (Below.refl _ _).alloc (Nat.le_refl _) _⟩
  case round =>
    obtain ⟨k, hk, rfl, ⟨cs, hcs, hsz, hat⟩, hb⟩ := hrel
    by_cases hlt : k < 256
    · have hf := Blk.frozen hcs k
      have hc : wr.cell? ⟨w.heap.size, k, none⟩ = some (cs[k]'(by omega)) := by rw [Blk.cell hcs k]; exact Array.getElem?_eq_getElem (by omega)
      generalize cs[k]'(by omega) = old at hc
      have HAT := Lib.hid hat; clear hat
      have HSZ := Lib.hid hsz; clear hsz
      go_wp2
      go_loop [2, 8] (fun x t => ∃ j : Nat, j ≤ 8 ∧ t = .int .i64 j ∧ x = .int .u32 (stpN j k : Nat)) (fun _ t => 8 - (intOf t).toNat)
      case atStart => exact ⟨0, Nat.zero_le _, rfl, rfl⟩
      case round =>
        obtain ⟨j, hj, rfl, rfl⟩ := hrel
        by_cases hjl : j < 8
        · have hx := stpN_lt j k (by omega)
          have ha := and_walk (stpN j k) hx
          by_cases ho : stpN j k % 2 = 1
          · have hst := stp_walk_odd (stpN j k) hx ho
            rw [ho] at ha
            have HST := Lib.hid hst; clear hst ho hx
            go_wp2
            exact ⟨⟨j + 1, by omega, by go_num, by rw [HST.out, stpN]⟩, by simp [intOf]; omega⟩
          · have hst := stp_walk_even (stpN j k) ho
            have ho' : stpN j k % 2 = 0 := by omega
            rw [ho'] at ha
            have HST := Lib.hid hst; clear hst ho hx ho'
            go_wp2
            exact ⟨⟨j + 1, by omega, by go_num, by rw [HST.out, stpN]⟩, by simp [intOf]; omega⟩
        · obtain rfl : j = 8 := by omega
          go_wp2
          go_roundw
          case rel =>
            refine ⟨k + 1, by omega, by go_num, ⟨_, Blk.put hcs k _, by simpa using HSZ.out, fun i hi => ?_⟩, hb.setCell (Nat.le_refl _) _⟩
            rw [Array.getElem?_setIfInBounds]
            by_cases hik : k = i
            · subst hik
              rw [if_pos rfl, if_pos (by have := HSZ.out; omega)]
            · rw [if_neg hik]
              exact HAT.out i (by omega)
          case measure => simp [intOf]; omega
    · obtain rfl : k = 256 := by omega
      have hi : (Tryz.prog.info? 199).map (·.size) = some cs.size := by rw [hsz]; exact HZI.out
      have HI := Lib.hid hi; clear hi
      have HAT := Lib.hid hat; clear hat
      have HSZ := Lib.hid hsz; clear hsz
      have hone : cs.all (·.oneCell') = true := by
        rw [Array.all_eq_true]
        intro i hi
        have h := HAT.out i (by have := HSZ.out; omega)
        rw [Array.getElem?_eq_getElem hi] at h
        injection h with h
        rw [h]; rfl
      have HO := Lib.hid hone; clear hone
      go_wp2_with (first | (refine wpList_load_row rfl 199 _ rfl w.heap.size rfl 199 cs (0, 0) _ hcs Tryz.underlying199 rfl HI.out ?_) | (refine wpList_store_row rfl 199 _ _ rfl w.heap.size cs rfl rfl 199 cs hcs HI.out rfl HO.out ?_))
      refine bodyPost_ret (results_cell_row rfl _ _ w.heap.size 199 cs (0, 0) _ rfl (setRow_heap wr w.heap.size cs cs _ _ hcs) Tryz.underlying199 rfl HI.out) rfl ⟨cs, rfl, ⟨HSZ.out, HAT.out⟩, hb.trans ?_⟩
      exact ⟨rfl, rfl, rfl, by simp, fun i hi => setRow_other wr w.heap.size i cs (by omega)⟩
end Go.Proofs.YtlfeeiloijmagaaGreatDoor
