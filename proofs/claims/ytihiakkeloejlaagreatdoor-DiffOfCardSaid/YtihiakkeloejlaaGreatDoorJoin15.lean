/- Several texts, joined for the limit of sixty files; each one opens with its own comment. -/
import Derived.Test.YtihiakkeloejlaaGreatDoorJoin10
import Derived.Test.YtihiakkeloejlaaGreatDoorJoin14
import Derived.Test.YtihiakkeloejlaaGreatDoorJoin1
/- The reference's rows of items: Get, Under, Holds. -/
set_option linter.unusedVariables false
set_option linter.unusedSimpArgs false
namespace Sw
open Go
/-- what the reference's Get finds -/
def refGetT (l : List NE) (p : ByteArray) : Nd := ((l.find? fun e => decide (e.1 = p)).map (·.2)).getD ndZ
theorem refGetT_eq (l : List NE) (p : ByteArray) (h : Up ordS l) : refGetT l p = getT l p := by
  unfold refGetT getT
  rw [get_find ordS_ord p l h]
  congr 3
  funext e
  rw [Bool.eq_iff_iff]
  simp [ordS_ord.iff]
theorem refGetT_hit (l : List NE) (p : ByteArray) (i : Nat) (h : i < l.length) (hn : ∀ m (hm : m < l.length), m < i → ¬ l[m].1 = p) (hk : l[i].1 = p) : refGetT l p = l[i].2 := by
  unfold refGetT
  have hl : l = l.take i ++ l[i] :: l.drop (i + 1) := by rw [← List.drop_eq_getElem_cons h, List.take_append_drop]
  have hf : l.find? (fun e => decide (e.1 = p)) = some l[i] := by
    conv => lhs; rw [hl]
    rw [List.find?_append, List.find?_eq_none.2 (fun e he => by
      obtain ⟨m, hm, rfl⟩ := List.mem_iff_getElem.1 he
      rw [List.length_take] at hm
      rw [List.getElem_take]
      simpa using hn m (by omega) (by omega)), List.find?_cons_of_pos (by simp [hk])]
    rfl
  rw [hf]
  rfl
theorem refGetT_none (l : List NE) (p : ByteArray) (hn : ∀ m (hm : m < l.length), ¬ l[m].1 = p) : refGetT l p = ndZ := by
  unfold refGetT
  rw [List.find?_eq_none.2 (fun e he => by
    obtain ⟨m, hm, rfl⟩ := List.mem_iff_getElem.1 he
    simpa using hn m hm)]
  rfl
end Sw
namespace Go.Proofs.YtihiakkeloejlaaGreatDoor
open Go Go.RowKit
open Sw
theorem infoIt : (Tryz.prog.info? 56).map (fun i => (i.zero, i.size, i.bytes)) = some (some (.agg #[.string ⟨#[]⟩, .int .i64 0, .int .i64 0, .int .u32 0, .string ⟨#[]⟩]), 5, 56) := by kernel_rfl
/-- a row of items of the call's own -/
def OwnIt (w : World) (base : Nat) (u : Value) (l : List NE) : Prop := w.ownsRow base 56 5 u l.length (l.flatMap eCSN)
theorem OwnIt.slv {w : World} {base : Nat} {u : Value} {l : List NE} (h : OwnIt w base u l) : SlV w 5 eCSN u l := SlV.of_own h eCSN_len (by decide)
theorem OwnIt.below {w w' : World} {base : Nat} {u : Value} {l : List NE} (h : OwnIt w base u l) (hb : Below w.heap.size w w') : OwnIt w' base u l := own_kept h hb
theorem OwnIt.zero {w : World} {b : Nat} {u : Value} {l : List NE} (h : OwnIt w b u l) : OwnIt w 0 u l := own_wide h (Nat.zero_le _)
theorem str_eq (a b : ByteArray) : (a.toList == b.toList) = decide (a = b) := by
  rw [Bool.eq_iff_iff, beq_iff_eq, decide_eq_true_eq, ByteArray.toList_eq, ByteArray.toList_eq]
  exact ⟨dat_inj, fun e => by rw [e]⟩
set_option maxRecDepth 100000 in
set_option maxHeartbeats 4000000 in
theorem ref16Get_any (w : World) (v : Value) (l : List NE) (p : ByteArray) (h : SlV w 5 eCSN v l) :
    Calls Tryz.prog 35 #[v, .string p] w fun e w' => e = .returned (.agg (refGetT l p).c) ∧ Below w.heap.size w w' := by
  obtain ⟨A, c, rfl, hc1, hc2, hsl⟩ := h
  obtain ⟨n, hn⟩ : ∃ n, l.length = n := ⟨_, rfl⟩
  rw [hn] at hc1 ⊢
  unfold maxLen at hc2
  have HL := Lib.hid hn; clear hn
  have HS := Lib.hid hsl; clear hsl
  have hb0 := (Below.refl w.heap.size w).alloc (Nat.le_refl _) (.cells #[.int .i64 0, .int .i64 0, .int .u32 0, .string ⟨#[]⟩] 54)
  have H0 := Lib.hid (And.intro hb0 (Blk.new w 54 #[.int .i64 0, .int .i64 0, .int .u32 0, .string ⟨#[]⟩])); clear hb0
  obtain ⟨G, hG⟩ : ∃ G, refGetT l p = G := ⟨_, rfl⟩
  rw [hG]
  have HG := Lib.hid hG; clear hG
  obtain ⟨T, hT⟩ : ∃ T, w.heap.size = T := ⟨_, rfl⟩
  rw [hT] at H0
  go_enter Tryz.func35, Tryz.ntmps35
  go_wp2_with fail
  go_loopw [9] (fun iv wr => ∃ i : Nat, i ≤ n ∧ iv = .int .i64 i ∧ (∀ m (hm : m < l.length), m < i → ¬ l[m].1 = p) ∧ Blk wr T 54 #[.int .i64 0, .int .i64 0, .int .u32 0, .string ⟨#[]⟩] ∧ Below T w wr) (fun iv _ => n - (intOf iv).toNat)
  case atStart => exact ⟨0, Nat.zero_le _, rfl, fun m h h' => absurd h' (Nat.not_lt_zero _), H0.out.2, H0.out.1⟩
  case round =>
    obtain ⟨i, hi, rfl, hall, hB, hb⟩ := hrel
    have HA := Lib.hid hall; clear hall
    by_cases hlt : i < n
    · have hiL : i < l.length := by have := HL.out; omega
      obtain ⟨b, off, rfl, hbb, hcs⟩ := (HS.out.below (B := w.heap.size) (by rw [hT]; exact hb) (Nat.le_refl _)) (by omega)
      have c0 := hcs i hiL 0 (by omega)
      have c1 := hcs i hiL 1 (by omega)
      have c2 := hcs i hiL 2 (by omega)
      have c3 := hcs i hiL 3 (by omega)
      have c4 := hcs i hiL 4 (by omega)
      simp only [eCSN, List.getElem?_cons_succ, List.getElem?_cons_zero, Nat.add_zero] at c0 c1 c2 c3 c4
      clear hcs
      have hi1 : (i : Int) < n := by omega
      have hse := str_eq l[i].1 p
      have hgh := fun hk => refGetT_hit l p i hiL HA.out hk
      have hgn := fun (hk : ¬ l[i].1 = p) m (hm : m < l.length) (h : m < i + 1) => (by
        by_cases h2 : m < i
        · exact HA.out m hm h2
        · obtain rfl : m = i := by omega
          exact hk : ¬ l[m].1 = p)
      obtain ⟨x, hx⟩ : ∃ x, l[i] = x := ⟨_, rfl⟩
      rw [hx] at hse
      simp only [hx] at c0 c1 c2 c3 c4 hgh hgn
      have hba := (Below.refl wr.heap.size wr).alloc (Nat.le_refl _) (.cells #[.string x.1, .int .i64 x.2.kind, .int .i64 x.2.mode, .int .u32 x.2.time, .string x.2.data] 56)
      have hB1 := hB.below hba hB.lt
      have hb1 := hb.trans (hba.mono (by rw [← hT]; exact hb.size))
      have HX := Lib.hid (And.intro hgh hgn); clear hgh hgn hx
      by_cases hk : x.1 = p
      · rw [decide_eq_true hk] at hse
        have hg := HX.out.1 hk
        rw [HG.out] at hg
        have x0 := hB1.cell 0
        have x1 := hB1.cell 1
        have x2 := hB1.cell 2
        have x3 := hB1.cell 3
        have f0 := hB1.frozen 0
        have f1 := hB1.frozen 1
        have f2 := hB1.frozen 2
        have f3 := hB1.frozen 3
        simp at x0 x1 x2 x3
        have HF := Lib.hid (And.intro hB1 (And.intro hb1 hg)); clear hB1 hb1 hg hba hB hb hk
        go_wp2_with fail
        refine bodyPost_ret (v := .agg #[.int .i64 x.2.kind, .int .i64 x.2.mode, .int .u32 x.2.time, .string x.2.data]) (results_cell_row rfl _ _ T 54 #[.int .i64 x.2.kind, .int .i64 x.2.mode, .int .u32 x.2.time, .string x.2.data] (0, 0) _ rfl ((((HF.out.1.put 0 (.int .i64 x.2.kind)).put 1 (.int .i64 x.2.mode)).put 2 (.int .u32 x.2.time)).put 3 (.string x.2.data)) Tryz.underlying54 rfl infoVSN) rfl ⟨by rw [HF.out.2.2]; rfl, ?_⟩
        exact ((((HF.out.2.1.setCell (p := ⟨T, 0, none⟩) (Nat.le_refl _) (.int .i64 x.2.kind)).setCell (p := ⟨T, 1, none⟩) (Nat.le_refl _) (.int .i64 x.2.mode)).setCell (p := ⟨T, 2, none⟩) (Nat.le_refl _) (.int .u32 x.2.time)).setCell (p := ⟨T, 3, none⟩) (Nat.le_refl _) (.string x.2.data)).mono (Nat.le_of_eq hT)
      · rw [decide_eq_false hk] at hse
        have HF := Lib.hid (And.intro hB1 (And.intro hb1 (HX.out.2 hk))); clear hB1 hb1 hba hB hb hk
        go_wp2_with fail
        go_roundw
        case rel => exact ⟨i + 1, by omega, by go_num, HF.out.2.2, HF.out.1, HF.out.2.1⟩
        case measure => simp [intOf]; omega
    · obtain rfl : i = n := by omega
      have hg := refGetT_none l p (fun m hm => HA.out m hm (by have := HL.out; omega))
      rw [HG.out] at hg
      have x0 := hB.cell 0
      have x1 := hB.cell 1
      have x2 := hB.cell 2
      have x3 := hB.cell 3
      have f0 := hB.frozen 0
      have f1 := hB.frozen 1
      have f2 := hB.frozen 2
      have f3 := hB.frozen 3
      simp at x0 x1 x2 x3
      have HF := Lib.hid (And.intro hB (And.intro hb hg)); clear hB hb hg
      go_wp2_with fail
      refine bodyPost_ret (v := .agg #[.int .i64 0, .int .i64 0, .int .u32 0, .string ⟨#[]⟩]) (results_cell_row rfl _ _ T 54 #[.int .i64 0, .int .i64 0, .int .u32 0, .string ⟨#[]⟩] (0, 0) _ rfl ((((HF.out.1.put 0 (.int .i64 0)).put 1 (.int .i64 0)).put 2 (.int .u32 0)).put 3 (.string ⟨#[]⟩)) Tryz.underlying54 rfl infoVSN) rfl ⟨by rw [HF.out.2.2]; rfl, ?_⟩
      exact ((((HF.out.2.1.setCell (p := ⟨T, 0, none⟩) (Nat.le_refl _) (.int .i64 0)).setCell (p := ⟨T, 1, none⟩) (Nat.le_refl _) (.int .i64 0)).setCell (p := ⟨T, 2, none⟩) (Nat.le_refl _) (.int .u32 0)).setCell (p := ⟨T, 3, none⟩) (Nat.le_refl _) (.string ⟨#[]⟩)).mono (Nat.le_of_eq hT)
set_option maxRecDepth 100000 in
set_option maxHeartbeats 4000000 in
theorem ref16Under_any (w : World) (p q : ByteArray) (hq : q.size ≤ 90000) :
    Calls Tryz.prog 116 #[.string p, .string q] w fun e w' => e = .returned (.bool (inS (upsS q) p)) ∧ Below w.heap.size w w' := by
  have HU := Lib.hid (refUps_any w q hq)
  obtain ⟨R, hR⟩ : ∃ R, inS (upsS q) p = R := ⟨_, rfl⟩
  rw [hR]
  have HR := Lib.hid hR; clear hR
  obtain ⟨l, hl⟩ : ∃ l, upsS q = l := ⟨_, rfl⟩
  rw [hl] at HU HR
  clear hl hq
  go_enter Tryz.func116, Tryz.ntmps116
  go_wp2_with fail
  refine HU.out.mono ?_
  rintro e w1 ⟨v, rfl, s, hb1⟩
  obtain ⟨A, c, rfl, hc1, hc2, hsl⟩ := s
  obtain ⟨n, hn⟩ : ∃ n, l.length = n := ⟨_, rfl⟩
  rw [hn] at hc1 ⊢
  unfold maxLen at hc2
  have HL := Lib.hid hn; clear hn
  have HS := Lib.hid hsl; clear hsl
  have HB := Lib.hid hb1; clear hb1 HU
  go_wp2_with fail
  go_loopw [6, 10] (fun _ iv wr => ∃ i : Nat, i ≤ n ∧ iv = .int .i64 i ∧ (∀ m (hm : m < l.length), m < i → ¬ l[m] = p) ∧ w1 = wr) (fun _ iv _ => n - (intOf iv).toNat)
  case atStart => exact ⟨0, Nat.zero_le _, rfl, fun m h h' => absurd h' (Nat.not_lt_zero _), rfl⟩
  case round =>
    obtain ⟨i, hi, rfl, hall, rfl⟩ := hrel
    have HA := Lib.hid hall; clear hall
    by_cases hlt : i < n
    · have hiL : i < l.length := by have := HL.out; omega
      obtain ⟨b, off, rfl, hbb, hcs⟩ := HS.out (by omega)
      have c0 := hcs i hiL 0 (by omega)
      simp [bE] at c0
      clear hcs
      have hi1 : (i : Int) < n := by omega
      have hse := str_eq l[i] p
      have hgh := fun (hk : l[i] = p) => (by
        rw [← HR.out]
        exact (inS_iff l p).2 (by rw [← hk]; exact List.getElem_mem hiL) : R = true)
      have hgn := fun (hk : ¬ l[i] = p) m (hm : m < l.length) (h : m < i + 1) => (by
        by_cases h2 : m < i
        · exact HA.out m hm h2
        · obtain rfl : m = i := by omega
          exact hk : ¬ l[m] = p)
      obtain ⟨x, hx⟩ : ∃ x, l[i] = x := ⟨_, rfl⟩
      rw [hx] at hse
      simp only [hx] at c0 hgh hgn
      have HX := Lib.hid (And.intro hgh hgn); clear hgh hgn hx
      by_cases hk : x = p
      · rw [decide_eq_true hk] at hse
        have HF := Lib.hid (HX.out.1 hk)
        have HSE := Lib.hid hse
        subst hk
        go_wp2_with fail
        go_ret
        exact ⟨by rw [HF.out]; rfl, HB.out⟩
      · rw [decide_eq_false hk] at hse
        have HF := Lib.hid (HX.out.2 hk); clear hk
        go_wp2_with fail
        go_roundw
        case rel => exact ⟨i + 1, by omega, by go_num, HF.out, by trivial⟩
        case measure => simp [intOf]; omega
    · obtain rfl : i = n := by omega
      have hg : R = false := by
        rw [← HR.out]
        cases hq : inS l p with
        | false => rfl
        | true =>
          obtain ⟨m, hm, he⟩ := List.mem_iff_getElem.1 ((inS_iff l p).1 hq)
          exact absurd he (HA.out m hm (by have := HL.out; omega))
      have HF := Lib.hid hg; clear hg
      go_wp2_with fail
      go_ret
      exact ⟨by rw [HF.out]; rfl, HB.out⟩
set_option maxRecDepth 100000 in
set_option maxHeartbeats 4000000 in
theorem ref16Holds_any (w : World) (v : Value) (l : List NE) (p : ByteArray) (h : SlV w 5 eCSN v l) (hok : ∀ e ∈ l, e.1.size ≤ 90000) :
    Calls Tryz.prog 92 #[v, .string p] w fun e w' => e = .returned (.bool (l.any fun e => inS (upsS e.1) p)) ∧ Below w.heap.size w w' := by
  obtain ⟨A, c, rfl, hc1, hc2, hsl⟩ := h
  obtain ⟨n, hn⟩ : ∃ n, l.length = n := ⟨_, rfl⟩
  rw [hn] at hc1 ⊢
  unfold maxLen at hc2
  have HL := Lib.hid hn; clear hn
  have HS := Lib.hid hsl; clear hsl
  have HOK := Lib.hid hok; clear hok
  obtain ⟨R, hR⟩ : ∃ R, (l.any fun e => inS (upsS e.1) p) = R := ⟨_, rfl⟩
  rw [hR]
  have HR := Lib.hid hR; clear hR
  go_enter Tryz.func92, Tryz.ntmps92
  go_wp2_with fail
  go_loopw [9] (fun iv wr => ∃ i : Nat, i ≤ n ∧ iv = .int .i64 i ∧ (∀ m (hm : m < l.length), m < i → inS (upsS l[m].1) p = false) ∧ Below w.heap.size w wr) (fun iv _ => n - (intOf iv).toNat)
  case atStart => exact ⟨0, Nat.zero_le _, rfl, fun m h h' => absurd h' (Nat.not_lt_zero _), Below.refl _ _⟩
  case round =>
    obtain ⟨i, hi, rfl, hall, hb⟩ := hrel
    have HA := Lib.hid hall; clear hall
    by_cases hlt : i < n
    · have hiL : i < l.length := by have := HL.out; omega
      obtain ⟨b, off, rfl, hbb, hcs⟩ := (HS.out.below hb (Nat.le_refl _)) (by omega)
      have c0 := hcs i hiL 0 (by omega)
      have c1 := hcs i hiL 1 (by omega)
      have c2 := hcs i hiL 2 (by omega)
      have c3 := hcs i hiL 3 (by omega)
      have c4 := hcs i hiL 4 (by omega)
      simp only [eCSN, List.getElem?_cons_succ, List.getElem?_cons_zero, Nat.add_zero] at c0 c1 c2 c3 c4
      clear hcs
      have hi1 : (i : Int) < n := by omega
      have hgh := fun (hk : inS (upsS l[i].1) p = true) => (by
        rw [← HR.out, List.any_eq_true]
        exact ⟨l[i], List.getElem_mem hiL, hk⟩ : R = true)
      have hgn := fun (hk : inS (upsS l[i].1) p = false) m (hm : m < l.length) (h : m < i + 1) => (by
        by_cases h2 : m < i
        · exact HA.out m hm h2
        · obtain rfl : m = i := by omega
          exact hk : inS (upsS l[m].1) p = false)
      have hxk := HOK.out l[i] (List.getElem_mem hiL)
      obtain ⟨x, hx⟩ : ∃ x, l[i] = x := ⟨_, rfl⟩
      rw [hx] at hxk
      simp only [hx] at c0 c1 c2 c3 c4 hgh hgn
      have hba := (Below.refl wr.heap.size wr).alloc (Nat.le_refl _) (.cells #[.string x.1, .int .i64 x.2.kind, .int .i64 x.2.mode, .int .u32 x.2.time, .string x.2.data] 56)
      have HU := Lib.hid (ref16Under_any (wr.alloc (.cells #[.string x.1, .int .i64 x.2.kind, .int .i64 x.2.mode, .int .u32 x.2.time, .string x.2.data] 56)) p x.1 hxk)
      have HB := Lib.hid (hb.trans (hba.mono hb.size))
      have HX := Lib.hid (And.intro hgh hgn); clear hgh hgn hx hba hb hxk
      obtain ⟨r, hr⟩ : ∃ r, inS (upsS x.1) p = r := ⟨_, rfl⟩
      rw [hr] at HU HX
      clear hr
      cases r with
      | true =>
        have hrt := HX.out.1 (by trivial)
        have HRT := Lib.hid hrt; clear hrt HX
        go_wp2_with fail
        refine HU.out.mono ?_
        rintro e w2 ⟨rfl, hb2⟩
        have HB2 := Lib.hid (HB.out.trans (hb2.mono HB.out.size)); clear hb2
        go_wp2_with fail
        go_ret
        exact ⟨by rw [HRT.out]; rfl, HB2.out⟩
      | false =>
        have hrt := HX.out.2 (by trivial)
        have HRT := Lib.hid hrt; clear hrt HX
        go_wp2_with fail
        refine HU.out.mono ?_
        rintro e w2 ⟨rfl, hb2⟩
        have HB2 := Lib.hid (HB.out.trans (hb2.mono HB.out.size)); clear hb2
        go_wp2_with fail
        go_roundw
        case rel => exact ⟨i + 1, by omega, by go_num, HRT.out, HB2.out⟩
        case measure => simp [intOf]; omega
    · obtain rfl : i = n := by omega
      have hg : R = false := by
        rw [← HR.out, List.any_eq_false]
        intro e he
        obtain ⟨m, hm, rfl⟩ := List.mem_iff_getElem.1 he
        rw [HA.out m hm (by have := HL.out; omega)]
        simp
      have HF := Lib.hid (And.intro hg hb); clear hg hb
      go_wp2_with fail
      go_ret
      exact ⟨by rw [HF.out.1]; rfl, HF.out.2⟩
end Go.Proofs.YtihiakkeloejlaaGreatDoor
/- The law's Light: are the steps few and small? -/
set_option linter.unusedVariables false
set_option linter.unusedSimpArgs false
namespace Go.Proofs.YtihiakkeloejlaaGreatDoor
open Go Go.RowKit
open Sw
/-- a small step -/
def SmallE (e : NE) : Prop := e.1.size ≤ 100 ∧ e.2.data.size ≤ 500
set_option maxRecDepth 100000 in
set_option maxHeartbeats 4000000 in
theorem light16_any (w : World) (v : Value) (l : List NE) (h : SlV w 5 eCSN v l) (hsz : ∀ e ∈ l, e.1.size ≤ maxLen ∧ e.2.data.size ≤ maxLen) :
    Calls Tryz.prog 21 #[v] w fun e w' => ∃ R : Bool, e = .returned (.bool R) ∧ (R = true → l.length ≤ 30 ∧ ∀ e ∈ l, SmallE e) ∧ Below w.heap.size w w' := by
  obtain ⟨A, c, rfl, hc1, hc2, hsl⟩ := h
  obtain ⟨n, hn⟩ : ∃ n, l.length = n := ⟨_, rfl⟩
  rw [hn] at hc1 ⊢
  unfold maxLen at hc2 hsz
  have HL := Lib.hid hn; clear hn
  have HS := Lib.hid hsl; clear hsl
  have HZ := Lib.hid hsz; clear hsz
  by_cases h30 : n ≤ 30
  · go_enter Tryz.func21, Tryz.ntmps21
    go_wp2_with fail
    go_loopw [4, 10] (fun _ iv wr => ∃ i : Nat, i ≤ n ∧ iv = .int .i64 i ∧ (∀ k (hk : k < l.length), k < i → SmallE l[k]) ∧ Below w.heap.size w wr) (fun _ iv _ => n - (intOf iv).toNat)
    case atStart => exact ⟨0, Nat.zero_le _, rfl, fun k _ h => absurd h (Nat.not_lt_zero _), Below.refl _ _⟩
    case round =>
      obtain ⟨i, hi, rfl, hall, hb⟩ := hrel
      have HA := Lib.hid hall; clear hall
      by_cases hlt : i < n
      · have hiL : i < l.length := by have := HL.out; omega
        obtain ⟨b, off, rfl, hbb, hcs⟩ := (HS.out.below hb (Nat.le_refl _)) (by omega)
        have c0 := hcs i hiL 0 (by omega)
        have c1 := hcs i hiL 1 (by omega)
        have c2 := hcs i hiL 2 (by omega)
        have c3' := hcs i hiL 3 (by omega)
        have c4 := hcs i hiL 4 (by omega)
        simp only [eCSN, List.getElem?_cons_succ, List.getElem?_cons_zero, Nat.add_zero] at c0 c1 c2 c3' c4
        clear hcs
        have hi1 : (i : Int) < n := by omega
        obtain ⟨hz1, hz2⟩ := HZ.out l[i] (List.getElem_mem hiL)
        obtain ⟨x, hx⟩ : ∃ x, l[i] = x := ⟨_, rfl⟩
        simp only [hx] at c0 c1 c2 c3' c4 hz1 hz2
        have HX := Lib.hid hx; clear hx
        have HB := Lib.hid (hb.alloc hb.size (.cells #[.string x.1, .int .i64 x.2.kind, .int .i64 x.2.mode, .int .u32 x.2.time, .string x.2.data] 56)); clear hb
        by_cases s1 : x.1.size ≤ 100
        · by_cases s2 : x.2.data.size ≤ 500
          · have s1' : (x.1.size : Int) ≤ 100 := by omega
            have s2' : (x.2.data.size : Int) ≤ 500 := by omega
            go_wp2_with fail
            go_roundw
            case rel => exact ⟨i + 1, by omega, by go_num, fun k hk hki => by
              by_cases e : k = i
              · subst e; rw [HX.out]; exact ⟨s1, s2⟩
              · exact HA.out k hk (by omega), HB.out⟩
            case measure => simp [intOf]; omega
          · have s1' : (x.1.size : Int) ≤ 100 := by omega
            have s2' : (500 : Int) < x.2.data.size := by omega
            go_wp2_with fail
            go_ret
            exact ⟨false, rfl, fun h => absurd h (by decide), HB.out⟩
        · have s1' : (100 : Int) < x.1.size := by omega
          go_wp2_with fail
          go_ret
          exact ⟨false, rfl, fun h => absurd h (by decide), HB.out⟩
      · obtain rfl : i = n := by omega
        have HB := Lib.hid hb; clear hb
        go_wp2_with fail
        go_ret
        exact ⟨true, rfl, fun _ => ⟨h30, fun e he => by
          obtain ⟨k, hk, rfl⟩ := List.mem_iff_getElem.1 he
          exact HA.out k hk (by have := HL.out; omega)⟩, HB.out⟩
  · have h31 : (30 : Int) < n := by omega
    go_enter Tryz.func21, Tryz.ntmps21
    go_wp2_with fail
    go_ret
    exact ⟨false, rfl, fun h => absurd h (by decide), Below.refl _ _⟩
end Go.Proofs.YtihiakkeloejlaaGreatDoor
/- Arguments that are rows of items, opened. -/
set_option linter.unusedVariables false
namespace Go.Proofs.YtihiakkeloejlaaGreatDoor
open Go Go.ChangeShapes Go.WideShapes Go.ChangeAt Go.RowKit
open Sw
/-- an item that came in -/
def NEIn (e : NE) : Prop := e.1.size ≤ maxLen ∧ NdIn e.2
set_option maxRecDepth 100000 in
theorem dec_nodeI {H : Type} {enc : TypeId × Value → H} {w : World} (fuel : Nat) (cs : List Value) (x : DataW H × List MemPlace) (h : DataW.trod enc Tryz.prog w 0 (fun _ => true) true fuel 54 cs = some x) :
    ∃ n : Nd, cs = [.int .i64 n.kind, .int .i64 n.mode, .int .u32 n.time, .string n.data] ∧ NdIn n := by
  obtain ⟨hl, hff⟩ := dec_fields Tryz.underlying54 (by kernel_rfl) (by kernel_rfl) h
  match cs, hl with
  | [c0, c1, c2, c3], _ =>
    obtain ⟨v0, n0, y0, e0, h0⟩ := hff 0 _ rfl
    obtain ⟨v1, n1, y1, e1, h1⟩ := hff 1 _ rfl
    obtain ⟨v2, n2, y2, e2, h2⟩ := hff 2 _ rfl
    obtain ⟨v3, n3, y3, e3, h3⟩ := hff 3 _ rfl
    simp at e0 e1 e2 e3
    subst e0 e1 e2 e3
    obtain ⟨k0, ek0, _, _⟩ := DataW.trod_int Tryz.underlying3 h0
    obtain ⟨k1, ek1, _, _⟩ := DataW.trod_int Tryz.underlying3 h1
    obtain ⟨k2, ek2, _, wk⟩ := DataW.trod_int Tryz.underlying52 h2
    obtain ⟨s, hs, _, hl⟩ := DataW.trod_string Tryz.underlying9 h3
    obtain ⟨b0, b1⟩ := bounds_u32 wk
    simp at ek0 ek1 ek2 hs
    subst ek0 ek1 ek2 hs
    exact ⟨⟨k0, k1, k2, s⟩, rfl, b0, by show k2 < 4294967296; omega, hl⟩
set_option maxRecDepth 100000 in
theorem dec_item {H : Type} {enc : TypeId × Value → H} {w : World} (fuel : Nat) (cs : List Value) (x : DataW H × List MemPlace) (h : DataW.trod enc Tryz.prog w 0 (fun _ => true) true fuel 56 cs = some x) :
    ∃ e : NE, cs = eCSN e ∧ NEIn e := by
  obtain ⟨y0, y1, n, _, hl, h0, h1⟩ := trod_struct2 Tryz.underlying56 h
  have hl5 : cs.length = 5 := hl.trans (by kernel_rfl)
  match cs, hl5 with
  | [c0, c1, c2, c3, c4], _ =>
    rw [show Tryz.prog.cellsOf 9 = 1 by kernel_rfl] at h0
    rw [show Tryz.prog.cellsOf 54 = 4 by kernel_rfl] at h1
    simp only [List.drop_zero, List.drop_succ_cons, List.take_succ_cons, List.take_zero] at h0 h1
    obtain ⟨s, hs, _, hsz⟩ := DataW.trod_string Tryz.underlying9 h0
    simp at hs
    subst hs
    obtain ⟨m, hm, hin⟩ := dec_nodeI _ _ _ h1
    simp at hm
    obtain ⟨rfl, rfl, rfl, rfl⟩ := hm
    exact ⟨(s, m), rfl, hsz, hin⟩
end Go.Proofs.YtihiakkeloejlaaGreatDoor
/- A slice inside of what was read, by a decoder of its elements. -/
set_option linter.unusedVariables false
namespace Go.Proofs.YtihiakkeloejlaaGreatDoor
open Go Go.ChangeShapes Go.WideShapes Go.ChangeAt Go.RowKit
open Sw
section
open Go.Deep
variable {H : Type} {enc : TypeId × Value → H} {P : Program} {w : World}
/-- A slice inside of what was read, by a decoder of its elements. -/
theorem slice_of_trodB {α : Type} (E : α → List Value) (V : α → Prop) {t e : TypeId} {fuel : Nat} {cs : List Value} {x : DataW H × List MemPlace} {size : Nat} (ht : P.underlying t = some (.slice e)) (hC : P.cellsOf e = size) (hs : 0 < size)
    (hdec : ∀ fuel cs x, DataW.trod enc P w 0 (fun _ => true) true fuel e cs = some x → ∃ a : α, cs = E a ∧ V a)
    (hf : DataW.trod enc P w 0 (fun _ => true) true fuel t cs = some x) :
    ∃ (A : Option Addr) (n c : Nat) (l : List α), cs = [.slice A n c] ∧ n ≤ c ∧ c ≤ maxLen ∧ l.length = n ∧ SlOf w size E A l ∧ (∀ a ∈ l, V a) := by
  rcases open_slice ht hf with ⟨h0, _⟩ | ⟨a, len, cap, m, k, D, Pl, hcs, hb, hl, hm, hmm, hx, hi⟩
  · exact ⟨none, 0, 0, [], h0, Nat.le_refl _, by simp [maxLen], rfl, SlOf.nil _ _ _ _, by simp⟩
  · rw [hC] at hi
    have hmc : m = cap := by simpa using hmm
    subst hmc
    obtain ⟨l, hlen, hq⟩ := exists_list (Q := fun i (x : α) => V x ∧ (E x).length = size ∧ ∀ j, j < size → w.cell? ((a.add (i * size)).add j) = (E x)[j]?) len (fun i hin => by
      obtain ⟨cs', hc, htr⟩ := hi i (by omega)
      obtain ⟨x, rfl, hx⟩ := hdec _ _ _ htr
      obtain ⟨_, hcl, hat⟩ := World.cells?_some hc
      exact ⟨x, hx, hcl, fun j hj => hat j hj⟩)
    refine ⟨some a, len, m, l, hcs, hl, hm, hlen, fun hn => ?_, fun x hx => ?_⟩
    · obtain ⟨_, hsz, hat⟩ := hq 0 hn
      have h0 := hat 0 hs
      rw [List.getElem?_eq_getElem (by omega)] at h0
      have hsp := World.cell?_spot h0
      have hlt := World.block_lt_of_cell? w _ h0
      rw [add_add, Nat.zero_mul, Nat.add_zero] at hsp hlt
      rw [show a.add 0 = a from rfl] at hsp hlt
      obtain ⟨b, off, spot⟩ := a
      have hsp' : spot = none := hsp
      subst hsp'
      refine ⟨b, off, rfl, hlt, fun i hi j hj => ?_⟩
      have h1 := (hq i hi).2.2 j hj
      rw [add_mk, add_mk] at h1
      exact h1
    · obtain ⟨i, hi', rfl⟩ := List.getElem_of_mem hx
      exact (hq i hi').1
end
end Go.Proofs.YtihiakkeloejlaaGreatDoor
/- An argument that is two rows of items, opened. -/
set_option linter.unusedVariables false
namespace Go.Proofs.YtihiakkeloejlaaGreatDoor
open Go Go.ChangeShapes Go.WideShapes Go.ChangeAt Go.RowKit
open Sw
set_option maxRecDepth 100000 in
theorem open_items2D {H : Type} {enc : TypeId × Value → H} {w : World} {r : Reach} {b0 : Nat} {v : Value} {d : DataW H} {p : List MemPlace} (hv : Value.okWide Tryz.prog w r b0 23 v) (h : DataW.Trod enc Tryz.prog w 0 (fun _ => true) true 23 v d p) :
    ∃ (v1 v2 : Value) (xs ys : List NE), v = .agg #[v1, v2] ∧ SlV w 5 eCSN v1 xs ∧ SlV w 5 eCSN v2 ys ∧ (∀ x ∈ xs, NEIn x) ∧ ∀ x ∈ ys, NEIn x := by
  obtain ⟨l, rfl, hl, hV⟩ := open_array_dec (n := 2) (e := 22) (fun a : Value × List NE => a.1) (fun a => SlV w 5 eCSN a.1 a.2 ∧ ∀ x ∈ a.2, NEIn x) Tryz.underlying23 (by kernel_rfl) (by kernel_rfl) (fun fuel c x hx => by
    obtain ⟨A1, m1, k1, l1, e1, q1, q2, q3, q4, q5⟩ := slice_of_trodB (size := 5) eCSN NEIn Tryz.underlying22 (by kernel_rfl) (by decide) dec_item hx
    simp at e1
    subst e1 q3
    exact ⟨(_, l1), rfl, ⟨A1, k1, rfl, q1, q2, q4⟩, q5⟩) hv h
  match l, hl with
  | [a, b], _ => exact ⟨a.1, b.1, a.2, b.2, rfl, (hV a (by simp)).1, (hV b (by simp)).1, (hV a (by simp)).2, (hV b (by simp)).2⟩
end Go.Proofs.YtihiakkeloejlaaGreatDoor
/- append(out, l...): the source any slice that reads as a list, nil let in. Over any program. -/
set_option linter.unusedVariables false
set_option linter.unusedSimpArgs false
namespace Sw
open Go Go.RowKit
section
variable {P : Program}
theorem run_app_nilc (w : World) (base : Nat) (t ty e : TypeId) (i : TypeInfo) (size : Nat) (ht : P.underlying t = some (.slice e)) (hi : P.info? e = some i) (v : Value) (n : Nat) (xs : List Value) (hown : w.ownsRow base e size v n xs) (c : Nat) :
    (Builtin.append_ #[t, t] ty #[v, .slice none 0 c]).run P w = .ok v w := by
  obtain ⟨A, k, rfl, hnk, _, _⟩ := SlV_of_any hown
  cases A <;> simp [Builtin.append_, run_underlying ht, Builtin.lenOf, Builtin.firstCells, Go.sizeOf, typeInfo, hi, hnk, Go.loadCells, Go.storeCells]
/-- 'append(s, x...)': s the call's own row, x any slice that reads as the list l -/
theorem wpList_app_slv {w : World} {ops : Array Oper} {rest : List Oper} {o : Oper} {a : Act} {Q : Exit → Act → World → Prop} (hgd : o.guard = none) (s x : Operand) (t : TypeId)
    (ho : o.op = .call { callee := .builtin .append, args := #[s, x], argTypes := #[t, t] })
    (base : Nat) (e : TypeId) (z : Value) (size bytes : Nat) (ht : P.underlying t = some (.slice e)) (hi : (P.info? e).map (fun i => (i.zero, i.size, i.bytes)) = some (some z, size, bytes)) (hzs : z.cells.size = size) (hsz : 0 < size)
    (v : Value) (n : Nat) (xs : List Value) (hs : a.eval s = v) (hown : w.ownsRow base e size v n xs)
    {α : Type} (E : α → List Value) (hE : ∀ y, (E y).length = size) (hE1 : ∀ y, ∀ u ∈ E y, u.oneCell' = true) (u : Value) (l : List α) (hx : a.eval x = u) (hu : SlV w size E u l)
    (hn : n + l.length ≤ 1000000) (hby : bytes ≤ 1000000) (hbase : base ≤ w.heap.size)
    (h : ∀ v' w', w'.ownsRow base e size v' (n + l.length) (xs ++ l.flatMap E) → w.grownBy w' v.ownBlock → wpList P ops Q rest (a.put o.dst v') w') : wpList P ops Q (o :: rest) a w := by
  obtain ⟨i, hi0, hz, hs2, hb⟩ := info_parts hi
  obtain ⟨A, c, rfl, hc1, hc2, hsl⟩ := hu
  cases A with
  | none =>
    have h0 : l = [] := by
      cases l with
      | nil => rfl
      | cons y l => obtain ⟨b, off, h, _⟩ := hsl (by simp); cases h
    subst h0
    have hrun := run_app_nilc w base t o.type e i size ht hi0 v n xs hown c
    refine wpList_plain hgd fun K hK => ?_
    unfold Oper.wp
    simp only [List.length_nil] at hx
    simp [execOp, ho, resolve, invoke, builtin, hs, hx, hrun, Result.andThen]
    exact hK _ _ (h v w (by simpa using hown) (grown_refl _ _))
  | some ad =>
    have hlen : (l.flatMap E).length = l.length * size := flat_len hE l
    refine wpList_append_own (w := w) hgd s x t ho base e i z size bytes ht hi0 hz hs2 hb hzs hsz v n xs hs hown ad l.length c (l.flatMap E) hx hlen ?_ ?_ (by unfold maxLen; omega) ?_ hbase (fun v' w' h1 h2 _ => h v' w' h1 h2)
    · intro j q hj
      have hjl := (List.getElem?_eq_some_iff.1 hj).1
      rw [hlen] at hjl
      have hpos : 0 < l.length := by
        rcases Nat.eq_zero_or_pos l.length with h0 | h0
        · rw [h0] at hjl; omega
        · exact h0
      obtain ⟨b, off, hA, _, hcs⟩ := hsl hpos
      rw [Option.some.inj hA, add_mk]
      have hq : j / size < l.length := Nat.div_lt_of_lt_mul (by rw [Nat.mul_comm]; exact hjl)
      have hr : j % size < size := Nat.mod_lt _ hsz
      have hd : j / size * size + j % size = j := by rw [Nat.mul_comm]; exact Nat.div_add_mod j size
      have h1 := flat_get hE l (j / size) hq (j % size) hr
      rw [hd, hj] at h1
      have h2 := hcs (j / size) hq (j % size) hr
      rw [Nat.add_assoc, hd] at h2
      rw [h2, ← h1]
    · intro q hq
      rw [List.mem_flatMap] at hq
      obtain ⟨y, _, hy⟩ := hq
      exact hE1 y q hy
    · calc (n + l.length) * bytes ≤ 1000000 * 1000000 := Nat.mul_le_mul hn hby
        _ ≤ 140737488355328 := by decide
end
end Sw
/- The reference's rows of items: Without. -/
set_option linter.unusedVariables false
set_option linter.unusedSimpArgs false
namespace Go.Proofs.YtihiakkeloejlaaGreatDoor
open Go Go.RowKit
open Sw
theorem itC_one (e : NE) : ∀ u ∈ eCSN e, u.oneCell' = true := eCSN_one e
/-- an item is appended to a row of items -/
theorem OwnIt.app {w' : World} {base g cap n : Nat} {l : List NE} {x : NE} (h : w'.ownsRow base 56 5 (.slice (some ⟨g, 0, none⟩) (n + 1) cap) (n + 1) (l.flatMap eCSN ++ [.string x.1, .int .i64 x.2.kind, .int .i64 x.2.mode, .int .u32 x.2.time, .string x.2.data])) (hn : l.length = n) : OwnIt w' base (.slice (some ⟨g, 0, none⟩) (n + 1) cap) (l ++ [x]) := by
  unfold OwnIt
  rw [List.length_append, List.length_singleton, hn, List.flatMap_append]
  simpa [eCSN] using h
end Go.Proofs.YtihiakkeloejlaaGreatDoor
