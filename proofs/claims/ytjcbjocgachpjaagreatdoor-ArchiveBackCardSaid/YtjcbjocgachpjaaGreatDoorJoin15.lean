/- Several texts, joined for the limit of sixty files; each one opens with its own comment. -/
import Derived.Test.YtjcbjocgachpjaaGreatDoorJoin10
import Derived.Test.YtjcbjocgachpjaaGreatDoorJoin14
import Derived.Test.YtjcbjocgachpjaaGreatDoorJoin1
import Derived.Test.YtjcbjocgachpjaaGreatDoorJoin9
import Derived.Laws.OwnMore
import Derived.Laws.IdiomStrings
/- The reference's rows of items: Get, Under, Holds. -/
set_option linter.unusedVariables false
set_option linter.unusedSimpArgs false
namespace Sw
open Go
/-- what the reference's Get finds -/
def refGetT (l : List NE) (p : ByteArray) : Nd := ((l.find? fun e => decide (e.1 = p)).map (·.2)).getD ndZ
theorem refGetT_eq (l : List NE) (p : ByteArray) (h : Up ordS l) : refGetT l p = getT l p := by
  unfold refGetT getT
  rw [get_find ordS_ord p l h]
  congr 3
  funext e
  rw [Bool.eq_iff_iff]
  simp [ordS_ord.iff]
theorem refGetT_hit (l : List NE) (p : ByteArray) (i : Nat) (h : i < l.length) (hn : ∀ m (hm : m < l.length), m < i → ¬ l[m].1 = p) (hk : l[i].1 = p) : refGetT l p = l[i].2 := by
  unfold refGetT
  have hl : l = l.take i ++ l[i] :: l.drop (i + 1) := by rw [← List.drop_eq_getElem_cons h, List.take_append_drop]
  have hf : l.find? (fun e => decide (e.1 = p)) = some l[i] := by
    conv => lhs; rw [hl]
    rw [List.find?_append, List.find?_eq_none.2 (fun e he => by
      obtain ⟨m, hm, rfl⟩ := List.mem_iff_getElem.1 he
      rw [List.length_take] at hm
      rw [List.getElem_take]
      simpa using hn m (by omega) (by omega)), List.find?_cons_of_pos (by simp [hk])]
    rfl
  rw [hf]
  rfl
theorem refGetT_none (l : List NE) (p : ByteArray) (hn : ∀ m (hm : m < l.length), ¬ l[m].1 = p) : refGetT l p = ndZ := by
  unfold refGetT
  rw [List.find?_eq_none.2 (fun e he => by
    obtain ⟨m, hm, rfl⟩ := List.mem_iff_getElem.1 he
    simpa using hn m hm)]
  rfl
end Sw
namespace Go.Proofs.YtjcbjocgachpjaaGreatDoor
open Go Go.RowKit
open Sw
theorem infoIt : (Tryz.prog.info? 45).map (fun i => (i.zero, i.size, i.bytes)) = some (some (.agg #[.string ⟨#[]⟩, .int .i64 0, .int .i64 0, .int .u32 0, .string ⟨#[]⟩]), 5, 56) := by kernel_rfl
/-- a row of items of the call's own -/
def OwnIt (w : World) (base : Nat) (u : Value) (l : List NE) : Prop := w.ownsRow base 45 5 u l.length (l.flatMap eCSN)
theorem OwnIt.slv {w : World} {base : Nat} {u : Value} {l : List NE} (h : OwnIt w base u l) : SlV w 5 eCSN u l := SlV.of_own h eCSN_len (by decide)
theorem OwnIt.below {w w' : World} {base : Nat} {u : Value} {l : List NE} (h : OwnIt w base u l) (hb : Below w.heap.size w w') : OwnIt w' base u l := own_kept h hb
theorem OwnIt.zero {w : World} {b : Nat} {u : Value} {l : List NE} (h : OwnIt w b u l) : OwnIt w 0 u l := own_wide h (Nat.zero_le _)
theorem str_eq (a b : ByteArray) : (a.toList == b.toList) = decide (a = b) := by
  rw [Bool.eq_iff_iff, beq_iff_eq, decide_eq_true_eq, ByteArray.toList_eq, ByteArray.toList_eq]
  exact ⟨dat_inj, fun e => by rw [e]⟩
set_option maxRecDepth 100000 in
set_option maxHeartbeats 4000000 in
theorem ref16Get_any (w : World) (v : Value) (l : List NE) (p : ByteArray) (h : SlV w 5 eCSN v l) :
    Calls Tryz.prog 69 #[v, .string p] w fun e w' => e = .returned (.agg (refGetT l p).c) ∧ Below w.heap.size w w' := by
  obtain ⟨A, c, rfl, hc1, hc2, hsl⟩ := h
  obtain ⟨n, hn⟩ : ∃ n, l.length = n := ⟨_, rfl⟩
  rw [hn] at hc1 ⊢
  unfold maxLen at hc2
  have HL := Lib.hid hn; clear hn
  have HS := Lib.hid hsl; clear hsl
  have hb0 := (Below.refl w.heap.size w).alloc (Nat.le_refl _) (.cells #[.int .i64 0, .int .i64 0, .int .u32 0, .string ⟨#[]⟩] 43)
  have H0 := Lib.hid (And.intro hb0 (Blk.new w 43 #[.int .i64 0, .int .i64 0, .int .u32 0, .string ⟨#[]⟩])); clear hb0
  obtain ⟨G, hG⟩ : ∃ G, refGetT l p = G := ⟨_, rfl⟩
  rw [hG]
  have HG := Lib.hid hG; clear hG
  obtain ⟨T, hT⟩ : ∃ T, w.heap.size = T := ⟨_, rfl⟩
  rw [hT] at H0
  go_enter Tryz.func69, Tryz.ntmps69
  go_wp2_with fail
  go_loopw [9] (fun iv wr => ∃ i : Nat, i ≤ n ∧ iv = .int .i64 i ∧ (∀ m (hm : m < l.length), m < i → ¬ l[m].1 = p) ∧ Blk wr T 43 #[.int .i64 0, .int .i64 0, .int .u32 0, .string ⟨#[]⟩] ∧ Below T w wr) (fun iv _ => n - (intOf iv).toNat)
  case atStart => exact ⟨0, Nat.zero_le _, rfl, fun m h h' => absurd h' (Nat.not_lt_zero _), H0.out.2, H0.out.1⟩
  case round =>
    obtain ⟨i, hi, rfl, hall, hB, hb⟩ := hrel
    have HA := Lib.hid hall; clear hall
    by_cases hlt : i < n
    · have hiL : i < l.length := by have := HL.out; omega
      obtain ⟨b, off, rfl, hbb, hcs⟩ := (HS.out.below (B := w.heap.size) (by rw [hT]; exact hb) (Nat.le_refl _)) (by omega)
      have c0 := hcs i hiL 0 (by omega)
      have c1 := hcs i hiL 1 (by omega)
      have c2 := hcs i hiL 2 (by omega)
      have c3 := hcs i hiL 3 (by omega)
      have c4 := hcs i hiL 4 (by omega)
      simp only [eCSN, List.getElem?_cons_succ, List.getElem?_cons_zero, Nat.add_zero] at c0 c1 c2 c3 c4
      clear hcs
      have hi1 : (i : Int) < n := by omega
      have hse := str_eq l[i].1 p
      have hgh := fun hk => refGetT_hit l p i hiL HA.out hk
      have hgn := fun (hk : ¬ l[i].1 = p) m (hm : m < l.length) (h : m < i + 1) => (by
        by_cases h2 : m < i
        · exact HA.out m hm h2
        · obtain rfl : m = i := by omega
          exact hk : ¬ l[m].1 = p)
      obtain ⟨x, hx⟩ : ∃ x, l[i] = x := ⟨_, rfl⟩
      rw [hx] at hse
      simp only [hx] at c0 c1 c2 c3 c4 hgh hgn
      have hba := (Below.refl wr.heap.size wr).alloc (Nat.le_refl _) (.cells #[.string x.1, .int .i64 x.2.kind, .int .i64 x.2.mode, .int .u32 x.2.time, .string x.2.data] 45)
      have hB1 := hB.below hba hB.lt
      have hb1 := hb.trans (hba.mono (by rw [← hT]; exact hb.size))
      have HX := Lib.hid (And.intro hgh hgn); clear hgh hgn hx
      by_cases hk : x.1 = p
      · rw [decide_eq_true hk] at hse
        have hg := HX.out.1 hk
        rw [HG.out] at hg
        have x0 := hB1.cell 0
        have x1 := hB1.cell 1
        have x2 := hB1.cell 2
        have x3 := hB1.cell 3
        have f0 := hB1.frozen 0
        have f1 := hB1.frozen 1
        have f2 := hB1.frozen 2
        have f3 := hB1.frozen 3
        simp at x0 x1 x2 x3
        have HF := Lib.hid (And.intro hB1 (And.intro hb1 hg)); clear hB1 hb1 hg hba hB hb hk
        go_wp2_with fail
        refine bodyPost_ret (v := .agg #[.int .i64 x.2.kind, .int .i64 x.2.mode, .int .u32 x.2.time, .string x.2.data]) (results_cell_row rfl _ _ T 43 #[.int .i64 x.2.kind, .int .i64 x.2.mode, .int .u32 x.2.time, .string x.2.data] (0, 0) _ rfl ((((HF.out.1.put 0 (.int .i64 x.2.kind)).put 1 (.int .i64 x.2.mode)).put 2 (.int .u32 x.2.time)).put 3 (.string x.2.data)) Tryz.underlying43 rfl infoVSN) rfl ⟨by rw [HF.out.2.2]; rfl, ?_⟩
        exact ((((HF.out.2.1.setCell (p := ⟨T, 0, none⟩) (Nat.le_refl _) (.int .i64 x.2.kind)).setCell (p := ⟨T, 1, none⟩) (Nat.le_refl _) (.int .i64 x.2.mode)).setCell (p := ⟨T, 2, none⟩) (Nat.le_refl _) (.int .u32 x.2.time)).setCell (p := ⟨T, 3, none⟩) (Nat.le_refl _) (.string x.2.data)).mono (Nat.le_of_eq hT)
      · rw [decide_eq_false hk] at hse
        have HF := Lib.hid (And.intro hB1 (And.intro hb1 (HX.out.2 hk))); clear hB1 hb1 hba hB hb hk
        go_wp2_with fail
        go_roundw
        case rel => exact ⟨i + 1, by omega, by go_num, HF.out.2.2, HF.out.1, HF.out.2.1⟩
        case measure => simp [intOf]; omega
    · obtain rfl : i = n := by omega
      have hg := refGetT_none l p (fun m hm => HA.out m hm (by have := HL.out; omega))
      rw [HG.out] at hg
      have x0 := hB.cell 0
      have x1 := hB.cell 1
      have x2 := hB.cell 2
      have x3 := hB.cell 3
      have f0 := hB.frozen 0
      have f1 := hB.frozen 1
      have f2 := hB.frozen 2
      have f3 := hB.frozen 3
      simp at x0 x1 x2 x3
      have HF := Lib.hid (And.intro hB (And.intro hb hg)); clear hB hb hg
      go_wp2_with fail
      refine bodyPost_ret (v := .agg #[.int .i64 0, .int .i64 0, .int .u32 0, .string ⟨#[]⟩]) (results_cell_row rfl _ _ T 43 #[.int .i64 0, .int .i64 0, .int .u32 0, .string ⟨#[]⟩] (0, 0) _ rfl ((((HF.out.1.put 0 (.int .i64 0)).put 1 (.int .i64 0)).put 2 (.int .u32 0)).put 3 (.string ⟨#[]⟩)) Tryz.underlying43 rfl infoVSN) rfl ⟨by rw [HF.out.2.2]; rfl, ?_⟩
      exact ((((HF.out.2.1.setCell (p := ⟨T, 0, none⟩) (Nat.le_refl _) (.int .i64 0)).setCell (p := ⟨T, 1, none⟩) (Nat.le_refl _) (.int .i64 0)).setCell (p := ⟨T, 2, none⟩) (Nat.le_refl _) (.int .u32 0)).setCell (p := ⟨T, 3, none⟩) (Nat.le_refl _) (.string ⟨#[]⟩)).mono (Nat.le_of_eq hT)
set_option maxRecDepth 100000 in
set_option maxHeartbeats 4000000 in
theorem ref16Under_any (w : World) (p q : ByteArray) (hq : q.size ≤ 90000) :
    Calls Tryz.prog 108 #[.string p, .string q] w fun e w' => e = .returned (.bool (inS (upsS q) p)) ∧ Below w.heap.size w w' := by
  have HU := Lib.hid (refUps_any w q hq)
  obtain ⟨R, hR⟩ : ∃ R, inS (upsS q) p = R := ⟨_, rfl⟩
  rw [hR]
  have HR := Lib.hid hR; clear hR
  obtain ⟨l, hl⟩ : ∃ l, upsS q = l := ⟨_, rfl⟩
  rw [hl] at HU HR
  clear hl hq
  go_enter Tryz.func108, Tryz.ntmps108
  go_wp2_with fail
  refine HU.out.mono ?_
  rintro e w1 ⟨v, rfl, s, hb1⟩
  obtain ⟨A, c, rfl, hc1, hc2, hsl⟩ := s
  obtain ⟨n, hn⟩ : ∃ n, l.length = n := ⟨_, rfl⟩
  rw [hn] at hc1 ⊢
  unfold maxLen at hc2
  have HL := Lib.hid hn; clear hn
  have HS := Lib.hid hsl; clear hsl
  have HB := Lib.hid hb1; clear hb1 HU
  go_wp2_with fail
  go_loopw [6, 10] (fun _ iv wr => ∃ i : Nat, i ≤ n ∧ iv = .int .i64 i ∧ (∀ m (hm : m < l.length), m < i → ¬ l[m] = p) ∧ w1 = wr) (fun _ iv _ => n - (intOf iv).toNat)
  case atStart => exact ⟨0, Nat.zero_le _, rfl, fun m h h' => absurd h' (Nat.not_lt_zero _), rfl⟩
  case round =>
    obtain ⟨i, hi, rfl, hall, rfl⟩ := hrel
    have HA := Lib.hid hall; clear hall
    by_cases hlt : i < n
    · have hiL : i < l.length := by have := HL.out; omega
      obtain ⟨b, off, rfl, hbb, hcs⟩ := HS.out (by omega)
      have c0 := hcs i hiL 0 (by omega)
      simp [bE] at c0
      clear hcs
      have hi1 : (i : Int) < n := by omega
      have hse := str_eq l[i] p
      have hgh := fun (hk : l[i] = p) => (by
        rw [← HR.out]
        exact (inS_iff l p).2 (by rw [← hk]; exact List.getElem_mem hiL) : R = true)
      have hgn := fun (hk : ¬ l[i] = p) m (hm : m < l.length) (h : m < i + 1) => (by
        by_cases h2 : m < i
        · exact HA.out m hm h2
        · obtain rfl : m = i := by omega
          exact hk : ¬ l[m] = p)
      obtain ⟨x, hx⟩ : ∃ x, l[i] = x := ⟨_, rfl⟩
      rw [hx] at hse
      simp only [hx] at c0 hgh hgn
      have HX := Lib.hid (And.intro hgh hgn); clear hgh hgn hx
      by_cases hk : x = p
      · rw [decide_eq_true hk] at hse
        have HF := Lib.hid (HX.out.1 hk)
        have HSE := Lib.hid hse
        subst hk
        go_wp2_with fail
        go_ret
        exact ⟨by rw [HF.out]; rfl, HB.out⟩
      · rw [decide_eq_false hk] at hse
        have HF := Lib.hid (HX.out.2 hk); clear hk
        go_wp2_with fail
        go_roundw
        case rel => exact ⟨i + 1, by omega, by go_num, HF.out, by trivial⟩
        case measure => simp [intOf]; omega
    · obtain rfl : i = n := by omega
      have hg : R = false := by
        rw [← HR.out]
        cases hq : inS l p with
        | false => rfl
        | true =>
          obtain ⟨m, hm, he⟩ := List.mem_iff_getElem.1 ((inS_iff l p).1 hq)
          exact absurd he (HA.out m hm (by have := HL.out; omega))
      have HF := Lib.hid hg; clear hg
      go_wp2_with fail
      go_ret
      exact ⟨by rw [HF.out]; rfl, HB.out⟩
set_option maxRecDepth 100000 in
set_option maxHeartbeats 4000000 in
theorem ref16Holds_any (w : World) (v : Value) (l : List NE) (p : ByteArray) (h : SlV w 5 eCSN v l) (hok : ∀ e ∈ l, e.1.size ≤ 90000) :
    Calls Tryz.prog 70 #[v, .string p] w fun e w' => e = .returned (.bool (l.any fun e => inS (upsS e.1) p)) ∧ Below w.heap.size w w' := by
  obtain ⟨A, c, rfl, hc1, hc2, hsl⟩ := h
  obtain ⟨n, hn⟩ : ∃ n, l.length = n := ⟨_, rfl⟩
  rw [hn] at hc1 ⊢
  unfold maxLen at hc2
  have HL := Lib.hid hn; clear hn
  have HS := Lib.hid hsl; clear hsl
  have HOK := Lib.hid hok; clear hok
  obtain ⟨R, hR⟩ : ∃ R, (l.any fun e => inS (upsS e.1) p) = R := ⟨_, rfl⟩
  rw [hR]
  have HR := Lib.hid hR; clear hR
  go_enter Tryz.func70, Tryz.ntmps70
  go_wp2_with fail
  go_loopw [9] (fun iv wr => ∃ i : Nat, i ≤ n ∧ iv = .int .i64 i ∧ (∀ m (hm : m < l.length), m < i → inS (upsS l[m].1) p = false) ∧ Below w.heap.size w wr) (fun iv _ => n - (intOf iv).toNat)
  case atStart => exact ⟨0, Nat.zero_le _, rfl, fun m h h' => absurd h' (Nat.not_lt_zero _), Below.refl _ _⟩
  case round =>
    obtain ⟨i, hi, rfl, hall, hb⟩ := hrel
    have HA := Lib.hid hall; clear hall
    by_cases hlt : i < n
    · have hiL : i < l.length := by have := HL.out; omega
      obtain ⟨b, off, rfl, hbb, hcs⟩ := (HS.out.below hb (Nat.le_refl _)) (by omega)
      have c0 := hcs i hiL 0 (by omega)
      have c1 := hcs i hiL 1 (by omega)
      have c2 := hcs i hiL 2 (by omega)
      have c3 := hcs i hiL 3 (by omega)
      have c4 := hcs i hiL 4 (by omega)
      simp only [eCSN, List.getElem?_cons_succ, List.getElem?_cons_zero, Nat.add_zero] at c0 c1 c2 c3 c4
      clear hcs
      have hi1 : (i : Int) < n := by omega
      have hgh := fun (hk : inS (upsS l[i].1) p = true) => (by
        rw [← HR.out, List.any_eq_true]
        exact ⟨l[i], List.getElem_mem hiL, hk⟩ : R = true)
      have hgn := fun (hk : inS (upsS l[i].1) p = false) m (hm : m < l.length) (h : m < i + 1) => (by
        by_cases h2 : m < i
        · exact HA.out m hm h2
        · obtain rfl : m = i := by omega
          exact hk : inS (upsS l[m].1) p = false)
      have hxk := HOK.out l[i] (List.getElem_mem hiL)
      obtain ⟨x, hx⟩ : ∃ x, l[i] = x := ⟨_, rfl⟩
      rw [hx] at hxk
      simp only [hx] at c0 c1 c2 c3 c4 hgh hgn
      have hba := (Below.refl wr.heap.size wr).alloc (Nat.le_refl _) (.cells #[.string x.1, .int .i64 x.2.kind, .int .i64 x.2.mode, .int .u32 x.2.time, .string x.2.data] 45)
      have HU := Lib.hid (ref16Under_any (wr.alloc (.cells #[.string x.1, .int .i64 x.2.kind, .int .i64 x.2.mode, .int .u32 x.2.time, .string x.2.data] 45)) p x.1 hxk)
      have HB := Lib.hid (hb.trans (hba.mono hb.size))
      have HX := Lib.hid (And.intro hgh hgn); clear hgh hgn hx hba hb hxk
      obtain ⟨r, hr⟩ : ∃ r, inS (upsS x.1) p = r := ⟨_, rfl⟩
      rw [hr] at HU HX
      clear hr
      cases r with
      | true =>
        have hrt := HX.out.1 (by trivial)
        have HRT := Lib.hid hrt; clear hrt HX
        go_wp2_with fail
        refine HU.out.mono ?_
        rintro e w2 ⟨rfl, hb2⟩
        have HB2 := Lib.hid (HB.out.trans (hb2.mono HB.out.size)); clear hb2
        go_wp2_with fail
        go_ret
        exact ⟨by rw [HRT.out]; rfl, HB2.out⟩
      | false =>
        have hrt := HX.out.2 (by trivial)
        have HRT := Lib.hid hrt; clear hrt HX
        go_wp2_with fail
        refine HU.out.mono ?_
        rintro e w2 ⟨rfl, hb2⟩
        have HB2 := Lib.hid (HB.out.trans (hb2.mono HB.out.size)); clear hb2
        go_wp2_with fail
        go_roundw
        case rel => exact ⟨i + 1, by omega, by go_num, HRT.out, HB2.out⟩
        case measure => simp [intOf]; omega
    · obtain rfl : i = n := by omega
      have hg : R = false := by
        rw [← HR.out, List.any_eq_false]
        intro e he
        obtain ⟨m, hm, rfl⟩ := List.mem_iff_getElem.1 he
        rw [HA.out m hm (by have := HL.out; omega)]
        simp
      have HF := Lib.hid (And.intro hg hb); clear hg hb
      go_wp2_with fail
      go_ret
      exact ⟨by rw [HF.out.1]; rfl, HF.out.2⟩
end Go.Proofs.YtjcbjocgachpjaaGreatDoor
/- The law's Light: are the steps few and small? -/
set_option linter.unusedVariables false
set_option linter.unusedSimpArgs false
namespace Go.Proofs.YtjcbjocgachpjaaGreatDoor
open Go Go.RowKit
open Sw
/-- a small step -/
def SmallE (e : NE) : Prop := e.1.size ≤ 100 ∧ e.2.data.size ≤ 500
set_option maxRecDepth 100000 in
set_option maxHeartbeats 4000000 in
theorem light16_any (w : World) (v : Value) (l : List NE) (h : SlV w 5 eCSN v l) (hsz : ∀ e ∈ l, e.1.size ≤ maxLen ∧ e.2.data.size ≤ maxLen) :
    Calls Tryz.prog 4 #[v] w fun e w' => ∃ R : Bool, e = .returned (.bool R) ∧ (R = true → l.length ≤ 30 ∧ ∀ e ∈ l, SmallE e) ∧ Below w.heap.size w w' := by
  obtain ⟨A, c, rfl, hc1, hc2, hsl⟩ := h
  obtain ⟨n, hn⟩ : ∃ n, l.length = n := ⟨_, rfl⟩
  rw [hn] at hc1 ⊢
  unfold maxLen at hc2 hsz
  have HL := Lib.hid hn; clear hn
  have HS := Lib.hid hsl; clear hsl
  have HZ := Lib.hid hsz; clear hsz
  by_cases h30 : n ≤ 30
  · go_enter Tryz.func4, Tryz.ntmps4
    go_wp2_with fail
    go_loopw [4, 10] (fun _ iv wr => ∃ i : Nat, i ≤ n ∧ iv = .int .i64 i ∧ (∀ k (hk : k < l.length), k < i → SmallE l[k]) ∧ Below w.heap.size w wr) (fun _ iv _ => n - (intOf iv).toNat)
    case atStart => exact ⟨0, Nat.zero_le _, rfl, fun k _ h => absurd h (Nat.not_lt_zero _), Below.refl _ _⟩
    case round =>
      obtain ⟨i, hi, rfl, hall, hb⟩ := hrel
      have HA := Lib.hid hall; clear hall
      by_cases hlt : i < n
      · have hiL : i < l.length := by have := HL.out; omega
        obtain ⟨b, off, rfl, hbb, hcs⟩ := (HS.out.below hb (Nat.le_refl _)) (by omega)
        have c0 := hcs i hiL 0 (by omega)
        have c1 := hcs i hiL 1 (by omega)
        have c2 := hcs i hiL 2 (by omega)
        have c3' := hcs i hiL 3 (by omega)
        have c4 := hcs i hiL 4 (by omega)
        simp only [eCSN, List.getElem?_cons_succ, List.getElem?_cons_zero, Nat.add_zero] at c0 c1 c2 c3' c4
        clear hcs
        have hi1 : (i : Int) < n := by omega
        obtain ⟨hz1, hz2⟩ := HZ.out l[i] (List.getElem_mem hiL)
        obtain ⟨x, hx⟩ : ∃ x, l[i] = x := ⟨_, rfl⟩
        simp only [hx] at c0 c1 c2 c3' c4 hz1 hz2
        have HX := Lib.hid hx; clear hx
        have HB := Lib.hid (hb.alloc hb.size (.cells #[.string x.1, .int .i64 x.2.kind, .int .i64 x.2.mode, .int .u32 x.2.time, .string x.2.data] 45)); clear hb
        by_cases s1 : x.1.size ≤ 100
        · by_cases s2 : x.2.data.size ≤ 500
          · have s1' : (x.1.size : Int) ≤ 100 := by omega
            have s2' : (x.2.data.size : Int) ≤ 500 := by omega
            go_wp2_with fail
            go_roundw
            case rel => exact ⟨i + 1, by omega, by go_num, fun k hk hki => by
              by_cases e : k = i
              · subst e; rw [HX.out]; exact ⟨s1, s2⟩
              · exact HA.out k hk (by omega), HB.out⟩
            case measure => simp [intOf]; omega
          · have s1' : (x.1.size : Int) ≤ 100 := by omega
            have s2' : (500 : Int) < x.2.data.size := by omega
            go_wp2_with fail
            go_ret
            exact ⟨false, rfl, fun h => absurd h (by decide), HB.out⟩
        · have s1' : (100 : Int) < x.1.size := by omega
          go_wp2_with fail
          go_ret
          exact ⟨false, rfl, fun h => absurd h (by decide), HB.out⟩
      · obtain rfl : i = n := by omega
        have HB := Lib.hid hb; clear hb
        go_wp2_with fail
        go_ret
        exact ⟨true, rfl, fun _ => ⟨h30, fun e he => by
          obtain ⟨k, hk, rfl⟩ := List.mem_iff_getElem.1 he
          exact HA.out k hk (by have := HL.out; omega)⟩, HB.out⟩
  · have h31 : (30 : Int) < n := by omega
    go_enter Tryz.func4, Tryz.ntmps4
    go_wp2_with fail
    go_ret
    exact ⟨false, rfl, fun h => absurd h (by decide), Below.refl _ _⟩
end Go.Proofs.YtjcbjocgachpjaaGreatDoor
/- Arguments that are rows of items, opened. -/
set_option linter.unusedVariables false
namespace Go.Proofs.YtjcbjocgachpjaaGreatDoor
open Go Go.ChangeShapes Go.WideShapes Go.ChangeAt Go.RowKit
open Sw
/-- an item that came in -/
def NEIn (e : NE) : Prop := e.1.size ≤ maxLen ∧ NdIn e.2
set_option maxRecDepth 100000 in
theorem dec_nodeI {H : Type} {enc : TypeId × Value → H} {w : World} (fuel : Nat) (cs : List Value) (x : DataW H × List MemPlace) (h : DataW.trod enc Tryz.prog w 0 (fun _ => true) true fuel 43 cs = some x) :
    ∃ n : Nd, cs = [.int .i64 n.kind, .int .i64 n.mode, .int .u32 n.time, .string n.data] ∧ NdIn n := by
  obtain ⟨hl, hff⟩ := dec_fields Tryz.underlying43 (by kernel_rfl) (by kernel_rfl) h
  match cs, hl with
  | [c0, c1, c2, c3], _ =>
    obtain ⟨v0, n0, y0, e0, h0⟩ := hff 0 _ rfl
    obtain ⟨v1, n1, y1, e1, h1⟩ := hff 1 _ rfl
    obtain ⟨v2, n2, y2, e2, h2⟩ := hff 2 _ rfl
    obtain ⟨v3, n3, y3, e3, h3⟩ := hff 3 _ rfl
    simp at e0 e1 e2 e3
    subst e0 e1 e2 e3
    obtain ⟨k0, ek0, _, _⟩ := DataW.trod_int Tryz.underlying3 h0
    obtain ⟨k1, ek1, _, _⟩ := DataW.trod_int Tryz.underlying3 h1
    obtain ⟨k2, ek2, _, wk⟩ := DataW.trod_int Tryz.underlying41 h2
    obtain ⟨s, hs, _, hl⟩ := DataW.trod_string Tryz.underlying9 h3
    obtain ⟨b0, b1⟩ := bounds_u32 wk
    simp at ek0 ek1 ek2 hs
    subst ek0 ek1 ek2 hs
    exact ⟨⟨k0, k1, k2, s⟩, rfl, b0, by show k2 < 4294967296; omega, hl⟩
set_option maxRecDepth 100000 in
theorem dec_item {H : Type} {enc : TypeId × Value → H} {w : World} (fuel : Nat) (cs : List Value) (x : DataW H × List MemPlace) (h : DataW.trod enc Tryz.prog w 0 (fun _ => true) true fuel 45 cs = some x) :
    ∃ e : NE, cs = eCSN e ∧ NEIn e := by
  obtain ⟨y0, y1, n, _, hl, h0, h1⟩ := trod_struct2 Tryz.underlying45 h
  have hl5 : cs.length = 5 := hl.trans (by kernel_rfl)
  match cs, hl5 with
  | [c0, c1, c2, c3, c4], _ =>
    rw [show Tryz.prog.cellsOf 9 = 1 by kernel_rfl] at h0
    rw [show Tryz.prog.cellsOf 43 = 4 by kernel_rfl] at h1
    simp only [List.drop_zero, List.drop_succ_cons, List.take_succ_cons, List.take_zero] at h0 h1
    obtain ⟨s, hs, _, hsz⟩ := DataW.trod_string Tryz.underlying9 h0
    simp at hs
    subst hs
    obtain ⟨m, hm, hin⟩ := dec_nodeI _ _ _ h1
    simp at hm
    obtain ⟨rfl, rfl, rfl, rfl⟩ := hm
    exact ⟨(s, m), rfl, hsz, hin⟩
end Go.Proofs.YtjcbjocgachpjaaGreatDoor
/- Texts of modes and numbers, plainly: node.Perm, hex, dec, and what is read of them. -/
namespace Sw
/-- the nine signs of a mode -/
def sgnD (n i : Nat) : UInt8 := if n / 2 ^ (8 - i) % 2 = 0 then 45 else if i % 3 = 0 then 114 else if i % 3 = 1 then 119 else 120
def permL (n : Nat) : List UInt8 := (List.range 9).map (sgnD n)
theorem perm_len (n : Nat) : (permL n).length = 9 := by simp [permL]
theorem perm_no (n : Nat) (h : n < 512) : (32 : UInt8) ∉ permL n ∧ (9 : UInt8) ∉ permL n ∧ (10 : UInt8) ∉ permL n := by
  have : ∀ n : Fin 512, (32 : UInt8) ∉ permL n.1 ∧ (9 : UInt8) ∉ permL n.1 ∧ (10 : UInt8) ∉ permL n.1 := by decide +kernel
  exact this ⟨n, h⟩
/-- a digit to the base 16 -/
def hexD (k : Nat) : UInt8 := if k < 10 then UInt8.ofNat (48 + k) else UInt8.ofNat (87 + k)
def hexL (n : Nat) : List UInt8 := (List.range 8).map fun i => hexD (n / 16 ^ (7 - i) % 16)
def idxH (c : UInt8) : Nat := if 48 ≤ c.toNat ∧ c.toNat ≤ 57 then c.toNat - 48 else if 97 ≤ c.toNat ∧ c.toNat ≤ 102 then c.toNat - 87 else 0
def numU (base : Nat) (l : List UInt8) : Nat := l.foldl (fun n c => n * base + idxH c) 0
theorem numU_snoc (b : Nat) (l : List UInt8) (c : UInt8) : numU b (l ++ [c]) = numU b l * b + idxH c := by unfold numU; rw [List.foldl_append]; rfl
theorem idx_hex (k : Nat) (h : k < 16) : idxH (hexD k) = k := by
  have : ∀ k : Fin 16, idxH (hexD k.1) = k.1 := by decide
  exact this ⟨k, h⟩
theorem hexD_no (k : Nat) (h : k < 16) : hexD k ≠ 32 ∧ hexD k ≠ 9 ∧ hexD k ≠ 10 := by
  have : ∀ k : Fin 16, hexD k.1 ≠ 32 ∧ hexD k.1 ≠ 9 ∧ hexD k.1 ≠ 10 := by decide
  exact this ⟨k, h⟩
theorem hex_len (n : Nat) : (hexL n).length = 8 := by simp [hexL]
theorem num_hex (n : Nat) (h : n < 4294967296) : numU 16 (hexL n) = n := by
  have e : hexL n = [hexD (n / 16 ^ 7 % 16), hexD (n / 16 ^ 6 % 16), hexD (n / 16 ^ 5 % 16), hexD (n / 16 ^ 4 % 16), hexD (n / 16 ^ 3 % 16), hexD (n / 16 ^ 2 % 16), hexD (n / 16 ^ 1 % 16), hexD (n / 16 ^ 0 % 16)] := rfl
  rw [e]
  unfold numU
  simp only [List.foldl_cons, List.foldl_nil]
  rw [idx_hex _ (Nat.mod_lt _ (by decide)), idx_hex _ (Nat.mod_lt _ (by decide)), idx_hex _ (Nat.mod_lt _ (by decide)), idx_hex _ (Nat.mod_lt _ (by decide)), idx_hex _ (Nat.mod_lt _ (by decide)), idx_hex _ (Nat.mod_lt _ (by decide)), idx_hex _ (Nat.mod_lt _ (by decide)), idx_hex _ (Nat.mod_lt _ (by decide))]
  simp only [Nat.reducePow, Nat.div_one]
  omega
theorem hex_no (n : Nat) : (32 : UInt8) ∉ hexL n ∧ (9 : UInt8) ∉ hexL n ∧ (10 : UInt8) ∉ hexL n := by
  unfold hexL
  simp only [List.mem_map, List.mem_range, not_exists, not_and]
  exact ⟨fun i _ e => (hexD_no _ (Nat.mod_lt _ (by decide))).1 e, fun i _ e => (hexD_no _ (Nat.mod_lt _ (by decide))).2.1 e, fun i _ e => (hexD_no _ (Nat.mod_lt _ (by decide))).2.2 e⟩
/-- decimal digits, as node.dec makes them -/
def dgB (m : Nat) : UInt8 := UInt8.ofNat (48 + m % 10)
theorem idx_dg (m : Nat) : idxH (dgB m) = m % 10 := by
  have : ∀ k : Fin 10, idxH (UInt8.ofNat (48 + k.1)) = k.1 := by decide
  exact this ⟨m % 10, Nat.mod_lt _ (by decide)⟩
theorem dg_no (m : Nat) : dgB m ≠ 32 ∧ dgB m ≠ 9 ∧ dgB m ≠ 10 := by
  have : ∀ k : Fin 10, UInt8.ofNat (48 + k.1) ≠ 32 ∧ UInt8.ofNat (48 + k.1) ≠ 9 ∧ UInt8.ofNat (48 + k.1) ≠ 10 := by decide
  exact this ⟨m % 10, Nat.mod_lt _ (by decide)⟩
/-- the text of m, ahead of what stands -/
def dcW (m : Nat) (l : List UInt8) : List UInt8 := if h : 9 < m then dcW (m / 10) (dgB m :: l) else dgB m :: l
termination_by m
decreasing_by omega
theorem dcW_more {m : Nat} (l : List UInt8) (h : 9 < m) : dcW m l = dcW (m / 10) (dgB m :: l) := by
  conv => lhs; unfold dcW
  rw [dif_pos h]
theorem dcW_last {m : Nat} (l : List UInt8) (h : ¬ 9 < m) : dcW m l = dgB m :: l := by
  unfold dcW
  rw [dif_neg h]
theorem numU_from (b : Nat) : ∀ (l : List UInt8) (a : Nat), l.foldl (fun n c => n * b + idxH c) a = a * b ^ l.length + numU b l
  | [], a => by simp [numU]
  | c :: l, a => by
    unfold numU
    rw [List.foldl_cons, List.foldl_cons, numU_from b l, numU_from b l, List.length_cons, Nat.pow_succ, Nat.add_mul, Nat.mul_assoc, Nat.mul_comm b, Nat.zero_mul, Nat.zero_add, Nat.add_assoc]
theorem numU_cons (b : Nat) (c : UInt8) (l : List UInt8) : numU b (c :: l) = idxH c * b ^ l.length + numU b l := by
  unfold numU
  rw [List.foldl_cons, numU_from, Nat.zero_mul, Nat.zero_add]
  rfl
theorem dcW_num (m : Nat) : ∀ l : List UInt8, numU 10 (dcW m l) = m * 10 ^ l.length + numU 10 l := by
  induction m using Nat.strongRecOn with
  | _ m ih =>
    intro l
    by_cases h : 9 < m
    · rw [dcW_more l h, ih (m / 10) (by omega), List.length_cons, numU_cons, idx_dg, ← Nat.add_assoc, Nat.pow_succ, ← Nat.mul_assoc, Nat.mul_right_comm, ← Nat.add_mul]
      congr 2
      omega
    · rw [dcW_last l h, numU_cons, idx_dg, Nat.mod_eq_of_lt (by omega)]
theorem num_dc (m : Nat) : numU 10 (dcW m []) = m := by rw [dcW_num]; simp [numU]
theorem dcW_len (k : Nat) : ∀ (m : Nat) (l : List UInt8), m < 10 ^ (k + 1) → (dcW m l).length ≤ l.length + k + 1 := by
  induction k with
  | zero =>
    intro m l h
    rw [dcW_last l (by simp at h; omega), List.length_cons]
    omega
  | succ k ih =>
    intro m l h
    by_cases h9 : 9 < m
    · rw [dcW_more l h9]
      have := ih (m / 10) (dgB m :: l) (by rw [Nat.pow_succ] at h; omega)
      rw [List.length_cons] at this
      omega
    · rw [dcW_last l h9, List.length_cons]
      omega
theorem dc_len (m : Nat) (h : m < 100000) : (dcW m []).length ≤ 5 := by
  have := dcW_len 4 m [] (by simpa using h)
  simpa using this
theorem dcW_mem (m : Nat) : ∀ (l : List UInt8) (c : UInt8), c ∈ dcW m l → (∃ k, c = dgB k) ∨ c ∈ l := by
  induction m using Nat.strongRecOn with
  | _ m ih =>
    intro l c hc
    by_cases h : 9 < m
    · rw [dcW_more l h] at hc
      rcases ih (m / 10) (by omega) _ c hc with h1 | h1
      · exact .inl h1
      · rcases List.mem_cons.1 h1 with h2 | h2
        · exact .inl ⟨m, h2⟩
        · exact .inr h2
    · rw [dcW_last l h] at hc
      rcases List.mem_cons.1 hc with h2 | h2
      · exact .inl ⟨m, h2⟩
      · exact .inr h2
theorem dc_no (m : Nat) : (32 : UInt8) ∉ dcW m [] ∧ (9 : UInt8) ∉ dcW m [] ∧ (10 : UInt8) ∉ dcW m [] := by
  refine ⟨fun h => ?_, fun h => ?_, fun h => ?_⟩
  · rcases dcW_mem m [] _ h with ⟨k, e⟩ | h
    · exact (dg_no k).1 e.symm
    · cases h
  · rcases dcW_mem m [] _ h with ⟨k, e⟩ | h
    · exact (dg_no k).2.1 e.symm
    · cases h
  · rcases dcW_mem m [] _ h with ⟨k, e⟩ | h
    · exact (dg_no k).2.2 e.symm
    · cases h
end Sw

/- Contracts of dos.digits, dos.Text; the document's example. -/
set_option linter.unusedVariables false
namespace Go.Proofs.YtjcbjocgachpjaaGreatDoor
open Go.RowKit
open Sw
/-- the last digits of a number -/
def digL (n : Nat) : Nat → List UInt8
  | 0 => []
  | i + 1 => UInt8.ofNat (48 + n / 10 ^ i % 10) :: digL n i
theorem digL_length (n i : Nat) : (digL n i).length = i := by
  induction i with
  | zero => rfl
  | succ i ih => rw [digL, List.length_cons, ih]
def byteVals (l : List UInt8) : List Value := l.map fun b => .int .u8 (b.toNat : Int)
theorem byteVals_zeros (k : Nat) : byteVals (List.replicate (k - 0) 0 ++ []) = (madeCells (Value.int .u8 0).cells (k * 1)).toList := by
  apply List.ext_getElem
  · simp [byteVals, madeCells]
  · intro j h1 h2
    simp [byteVals, madeCells, Value.cells, Nat.mod_one]
theorem bv_at (n i k j : Nat) (h : i < k) (hj : j = k - 1 - i) : (byteVals (List.replicate (k - i) 0 ++ digL n i))[j]? = some (.int .u8 0) := by
  have h2 : j < k - i := by omega
  simp [byteVals, List.getElem?_append_left, h2]
theorem bv_set (n i k j : Nat) (h : i < k) (hj : j = k - 1 - i) (v : Int) (hv : v = ((48 + n / 10 ^ i % 10 : Nat) : Int)) : (byteVals (List.replicate (k - i) 0 ++ digL n i)).set j (.int .u8 v) = byteVals (List.replicate (k - (i + 1)) 0 ++ digL n (i + 1)) := by
  have e3 : (UInt8.ofNat (48 + n / 10 ^ i % 10)).toNat = 48 + n / 10 ^ i % 10 := by
    have := Nat.mod_lt (n / 10 ^ i) (show 0 < 10 by omega)
    simp
    omega
  have e : Value.int .u8 v = (fun b : UInt8 => Value.int .u8 (b.toNat : Int)) (UInt8.ofNat (48 + n / 10 ^ i % 10)) := by
    show Value.int .u8 _ = Value.int .u8 _
    rw [e3, hv]
  rw [e, byteVals, ← List.map_set, byteVals]
  congr 1
  have hki : k - i = (k - (i + 1)) + 1 := by omega
  have hj2 : j = k - (i + 1) := by omega
  rw [hki, hj2, List.replicate_succ', List.append_assoc, List.set_append_right _ _ (by simp), digL]
  simp
theorem info_u8 : (Tryz.prog.info? 5).map (fun i => (i.zero, i.size, i.bytes)) = some (some (.int .u8 0), 1, 1) := by kernel_rfl
set_option maxRecDepth 100000 in
set_option maxHeartbeats 400000 in
theorem digits_any (w : World) (x k : Nat) (hx : x < 4294967296) (hk : k ≤ 8) :
    Calls Tryz.prog 92 #[.int .i64 x, .int .i64 k] w fun e w' => e = .returned (.string ⟨(digL x k).toArray⟩) ∧ Below w.heap.size w w' := by
  obtain ⟨i0, hi, hz0, hz1, hz2⟩ := info_parts info_u8
  go_enter Tryz.func92, Tryz.ntmps92
  go_wp2_with (at_make; refine wpList_make_full _ rfl _ _ 63 rfl w.heap.size 5 i0 (.int .u8 0) 1 Tryz.underlying63 hi hz0 hz1 .i64 .i64 k k k rfl rfl rfl rfl (by rw [hz2]; omega) (by unfold maxLen; omega) (Nat.le_refl _) ?_; intro w1 hown hgrow)
  have hb := (Below.refl w.heap.size w).grown hgrow (Nat.le_refl _) (by simp)
  clear hgrow
  have hown0 : w1.ownsRow w.heap.size 5 1 (.slice (some ⟨w.heap.size, 0, none⟩) k k) k (byteVals (List.replicate (k - 0) 0 ++ digL x 0)) := by
    have e : (madeCells (Value.int .u8 0).cells (k * 1)).toList = byteVals (List.replicate (k - 0) 0 ++ digL x 0) := by rw [digL, byteVals_zeros]
    rw [← e]; exact hown
  clear hown
  go_loopw [0, 6, 11] (fun n _ t wr => ∃ i : Nat, i ≤ k ∧ t = .int .i64 i ∧ n = .int .i64 (x / 10 ^ i : Nat) ∧ wr.ownsRow w.heap.size 5 1 (.slice (some ⟨w.heap.size, 0, none⟩) k k) k (byteVals (List.replicate (k - i) 0 ++ digL x i)) ∧ Below w.heap.size w wr) (fun _ _ t _ => k - (intOf t).toNat)
  case atStart => exact ⟨0, Nat.zero_le _, rfl, by simp, hown0, hb⟩
  case round =>
    obtain ⟨i, hik, rfl, rfl, hr, hbr⟩ := hrel
    by_cases hlt : i < k
    · have hn : x / 10 ^ i ≤ x := Nat.div_le_self _ _
      have hn1 : x / 10 ^ (i + 1) = x / 10 ^ i / 10 := by rw [Nat.pow_succ, Nat.div_div_eq_div_mul]
      have HN := Lib.hid hn1; clear hn1
      obtain ⟨j, hj⟩ : ∃ j : Nat, j = k - 1 - i := ⟨_, rfl⟩
      have hjc : ((k : Int) - 1 - i) = (j : Int) := by omega
      have hc := hr.cellAt j (by omega)
      have hf := hr.frozenAt j
      rw [bv_at x i k j hlt hj] at hc
      obtain ⟨hs, hg⟩ := hr.stored j (.int .u8 ((48 + x / 10 ^ i % 10 : Nat) : Int))
      rw [bv_set x i k j hlt hj _ rfl] at hs
      have hb' := hbr.grown hg hbr.size (by intro q hq; cases hq; exact Nat.le_refl _)
      have HS := Lib.hid hs; clear hs
      have HB := Lib.hid hb'; clear hb' hg hr
      generalize x / 10 ^ i = n at *
      have hjk : j < k := by omega
      have HJ := Lib.hid hj; clear hj
      go_wp2
      have hcast : ((48 + n % 10 : Nat) : Int) = 48 + (n : Int) % 10 := by omega
      rw [hcast] at HS HB
      go_roundw
      case rel => exact ⟨i + 1, by omega, by go_num, by rw [HN.out]; simp, HS.out, HB.out⟩
      case measure => simp [intOf]; omega
    · obtain rfl : i = k := by omega
      have hc : ∀ j (hj : j < (digL x i).length), wr.cell? ((⟨w.heap.size, 0, none⟩ : Addr).add j) = some (.int .u8 (((digL x i)[j]).toNat : Int)) := fun j hj => by
        refine hr.cells rfl j _ ?_
        rw [Nat.sub_self, List.replicate_zero, List.nil_append]
        simp [byteVals, List.getElem?_eq_getElem hj]
      have hcv := run_convert_bytes_back wr 63 9 5 ⟨w.heap.size, 0, none⟩ i (digL x i) Tryz.underlying63 Tryz.underlying5 Tryz.underlying9 hc
      rw [digL_length] at hcv
      clear hc
      go_wp2
      go_ret
      exact ⟨rfl, hbr⟩
def dig (n : Int) (k : Nat) : ByteArray := ⟨(digL n.toNat k).toArray⟩
theorem dig_size (n : Int) (k : Nat) : (dig n k).size = k := by
  show (digL n.toNat k).toArray.size = k
  rw [List.size_toArray, digL_length]
theorem digits_int (w : World) (n : Int) (k : Nat) (h0 : 0 ≤ n) (h1 : n < 4294967296) (hk : k ≤ 8) :
    Calls Tryz.prog 92 #[.int .i64 n, .int .i64 k] w fun e w' => e = .returned (.string (dig n k)) ∧ Below w.heap.size w w' := by
  obtain ⟨x, rfl⟩ := Int.eq_ofNat_of_zero_le h0
  exact digits_any w x k (by omega) hk
theorem digits_four (w : World) (n : Int) (h0 : 0 ≤ n) (h1 : n < 4294967296) :
    Calls Tryz.prog 92 #[.int .i64 n, .int .i64 4] w fun e w' => e = .returned (.string (dig n 4)) ∧ Below w.heap.size w w' := digits_int w n 4 h0 h1 (by omega)
theorem digits_two (w : World) (n : Int) (h0 : 0 ≤ n) (h1 : n < 4294967296) :
    Calls Tryz.prog 92 #[.int .i64 n, .int .i64 2] w fun e w' => e = .returned (.string (dig n 2)) ∧ Below w.heap.size w w' := digits_int w n 2 h0 h1 (by omega)
def textD (x : Dt) : ByteArray := dig x.y 4 ++ ⟨#[45]⟩ ++ dig x.m 2 ++ ⟨#[45]⟩ ++ dig x.d 2 ++ ⟨#[32]⟩ ++ dig x.h 2 ++ ⟨#[58]⟩ ++ dig x.mi 2 ++ ⟨#[58]⟩ ++ dig x.s 2
def textOr (x : Dt) : ByteArray := if x.Ok then textD x else ⟨#[]⟩
set_option maxRecDepth 100000 in
set_option maxHeartbeats 4000000 in
theorem text_any (w : World) (t : Int) (h0 : 0 ≤ t) (h1 : t < 4294967296) :
    Calls Tryz.prog 53 #[.int .u32 t] w fun e w' => e = .returned (.string (textOr (splitD t))) ∧ Below w.heap.size w w' := by
  have h := fun W => dosSplit_any W t h0 h1
  unfold splitOr at h
  unfold textOr
  generalize splitD t = x at *
  by_cases hok : x.Ok
  · rw [if_pos hok]
    simp only [if_pos hok, decide_eq_true hok] at h
    have HY := Lib.hid (fun W => digits_four W x.y (by have := hok.year; omega) (by have := hok.year; omega))
    have HM := Lib.hid (fun W => digits_two W x.m (by have := hok.year; omega) (by have := hok.year; omega))
    have HD := Lib.hid (fun W => digits_two W x.d (by have := hok.year; omega) (by have := hok.year; omega))
    have HH := Lib.hid (fun W => digits_two W x.h (by unfold Dt.Ok at hok; omega) (by unfold Dt.Ok at hok; omega))
    have HI := Lib.hid (fun W => digits_two W x.mi (by unfold Dt.Ok at hok; omega) (by unfold Dt.Ok at hok; omega))
    have HS := Lib.hid (fun W => digits_two W x.s (by unfold Dt.Ok at hok; omega) (by unfold Dt.Ok at hok; omega))
    have hT : textD x = dig x.y 4 ++ ⟨#[45]⟩ ++ dig x.m 2 ++ ⟨#[45]⟩ ++ dig x.d 2 ++ ⟨#[32]⟩ ++ dig x.h 2 ++ ⟨#[58]⟩ ++ dig x.mi 2 ++ ⟨#[58]⟩ ++ dig x.s 2 := rfl
    have sY := dig_size x.y 4
    have sM := dig_size x.m 2
    have sD := dig_size x.d 2
    have sH := dig_size x.h 2
    have sI := dig_size x.mi 2
    have sS := dig_size x.s 2
    rw [hT]
    clear hT
    generalize dig x.y 4 = Y at *
    generalize dig x.m 2 = M at *
    generalize dig x.d 2 = D at *
    generalize dig x.h 2 = H at *
    generalize dig x.mi 2 = I at *
    generalize dig x.s 2 = S at *
    have HSP := Lib.hid h; clear h
    go_enter Tryz.func53, Tryz.ntmps53
    go_wp2_with fail
    refine (HSP.out _).mono ?_
    rintro e w1 ⟨rfl, hb1⟩
    have hTA : TimeAt w w1.heap.size 147 x (w1.alloc (Obj.cells (Dt.v x) 147)).drew := ⟨Blk.new w1 _ _, (hb1.alloc hb1.size _).drew⟩
    have HTD := Lib.hid hTA; clear hTA
    have q0 : ∀ n : Held (TimeAt w w1.heap.size 147 x), (HeldW n).cell? ⟨w1.heap.size, 0, none⟩ = some (.int .i64 x.y) := fun n => (HeldW_spec n).1.cell 0
    have q1 : ∀ n : Held (TimeAt w w1.heap.size 147 x), (HeldW n).cell? ⟨w1.heap.size, 1, none⟩ = some (.int .i64 x.m) := fun n => (HeldW_spec n).1.cell 1
    have q2 : ∀ n : Held (TimeAt w w1.heap.size 147 x), (HeldW n).cell? ⟨w1.heap.size, 2, none⟩ = some (.int .i64 x.d) := fun n => (HeldW_spec n).1.cell 2
    have q3 : ∀ n : Held (TimeAt w w1.heap.size 147 x), (HeldW n).cell? ⟨w1.heap.size, 3, none⟩ = some (.int .i64 x.h) := fun n => (HeldW_spec n).1.cell 3
    have q4 : ∀ n : Held (TimeAt w w1.heap.size 147 x), (HeldW n).cell? ⟨w1.heap.size, 4, none⟩ = some (.int .i64 x.mi) := fun n => (HeldW_spec n).1.cell 4
    have q5 : ∀ n : Held (TimeAt w w1.heap.size 147 x), (HeldW n).cell? ⟨w1.heap.size, 5, none⟩ = some (.int .i64 x.s) := fun n => (HeldW_spec n).1.cell 5
    haveI : Nonempty (Held (TimeAt w w1.heap.size 147 x)) := held_some HTD.out
    unfold Dt.v
    unfold Dt.v at HTD
    go_wp2_with fail
    refine wp_region_class (TimeAt w w1.heap.size 147 x) (by kernel_rfl) (by kernel_rfl) HTD.out ?_
    repeat (go_big_quiet_step (first | with_reducible exact held_below (fun _ _ => TimeAt.below) (HY.out _) | with_reducible exact held_below (fun _ _ => TimeAt.below) (HM.out _) | with_reducible exact held_below (fun _ _ => TimeAt.below) (HD.out _) | with_reducible exact held_below (fun _ _ => TimeAt.below) (HH.out _) | with_reducible exact held_below (fun _ _ => TimeAt.below) (HI.out _) | with_reducible exact held_below (fun _ _ => TimeAt.below) (HS.out _)))
    refine wpQuiet_nil ?_
    rintro _ ⟨n, rfl⟩
    go_wp2_with fail
    go_ret
    exact ⟨rfl, (HeldW_spec n).2⟩
  · rw [if_neg hok]
    simp only [if_neg hok, decide_eq_false hok] at h
    have HSP := Lib.hid h; clear h
    unfold zeroD Dt.v at HSP
    go_enter Tryz.func53, Tryz.ntmps53
    go_wp2_with fail
    refine (HSP.out _).mono ?_
    rintro e w1 ⟨rfl, hb1⟩
    go_wp2_with fail
    go_ret
    exact ⟨rfl, hb1.alloc hb1.size _⟩
end Go.Proofs.YtjcbjocgachpjaaGreatDoor
