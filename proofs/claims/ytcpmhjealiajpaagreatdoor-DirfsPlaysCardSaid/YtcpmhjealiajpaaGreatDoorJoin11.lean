/- Several texts, joined for the limit of sixty files; each one opens with its own comment. -/
import Derived.Test.YtcpmhjealiajpaaGreatDoorJoin10
import Derived.Test.YtcpmhjealiajpaaGreatDoorJoin7
import Derived.Test.YtcpmhjealiajpaaGreatDoorJoin6
import Derived.Test.YtcpmhjealiajpaaGreatDoorChecked
import Derived.Test.YtcpmhjealiajpaaGreatDoorJoin4
import Derived.RegionTactic
import Derived.BigRegion
import Derived.Deep.RegionLaw
/- The reference's rows of items: Get, Under, Holds. -/
set_option linter.unusedVariables false
set_option linter.unusedSimpArgs false
namespace Sw
open Go
/-- what the reference's Get finds -/
def refGetT (l : List NE) (p : ByteArray) : Nd := ((l.find? fun e => decide (e.1 = p)).map (·.2)).getD ndZ
theorem refGetT_eq (l : List NE) (p : ByteArray) (h : Up ordS l) : refGetT l p = getT l p := by
  unfold refGetT getT
  rw [get_find ordS_ord p l h]
  congr 3
  funext e
  rw [Bool.eq_iff_iff]
  simp [ordS_ord.iff]
theorem refGetT_hit (l : List NE) (p : ByteArray) (i : Nat) (h : i < l.length) (hn : ∀ m (hm : m < l.length), m < i → ¬ l[m].1 = p) (hk : l[i].1 = p) : refGetT l p = l[i].2 := by
  unfold refGetT
  have hl : l = l.take i ++ l[i] :: l.drop (i + 1) := by rw [← List.drop_eq_getElem_cons h, List.take_append_drop]
  have hf : l.find? (fun e => decide (e.1 = p)) = some l[i] := by
    conv => lhs; rw [hl]
    rw [List.find?_append, List.find?_eq_none.2 (fun e he => by
      obtain ⟨m, hm, rfl⟩ := List.mem_iff_getElem.1 he
      rw [List.length_take] at hm
      rw [List.getElem_take]
      simpa using hn m (by omega) (by omega)), List.find?_cons_of_pos (by simp [hk])]
    rfl
  rw [hf]
  rfl
theorem refGetT_none (l : List NE) (p : ByteArray) (hn : ∀ m (hm : m < l.length), ¬ l[m].1 = p) : refGetT l p = ndZ := by
  unfold refGetT
  rw [List.find?_eq_none.2 (fun e he => by
    obtain ⟨m, hm, rfl⟩ := List.mem_iff_getElem.1 he
    simpa using hn m hm)]
  rfl
end Sw
namespace Go.Proofs.YtcpmhjealiajpaaGreatDoor
open Go Go.RowKit
open Sw
theorem infoIt : (Tryz.prog.info? 32).map (fun i => (i.zero, i.size, i.bytes)) = some (some (.agg #[.string ⟨#[]⟩, .int .i64 0, .int .i64 0, .int .u32 0, .string ⟨#[]⟩]), 5, 56) := by kernel_rfl
/-- a row of items of the call's own -/
def OwnIt (w : World) (base : Nat) (u : Value) (l : List NE) : Prop := w.ownsRow base 32 5 u l.length (l.flatMap eCSN)
theorem OwnIt.slv {w : World} {base : Nat} {u : Value} {l : List NE} (h : OwnIt w base u l) : SlV w 5 eCSN u l := SlV.of_own h eCSN_len (by decide)
theorem OwnIt.below {w w' : World} {base : Nat} {u : Value} {l : List NE} (h : OwnIt w base u l) (hb : Below w.heap.size w w') : OwnIt w' base u l := own_kept h hb
theorem OwnIt.zero {w : World} {b : Nat} {u : Value} {l : List NE} (h : OwnIt w b u l) : OwnIt w 0 u l := own_wide h (Nat.zero_le _)
theorem str_eq (a b : ByteArray) : (a.toList == b.toList) = decide (a = b) := by
  rw [Bool.eq_iff_iff, beq_iff_eq, decide_eq_true_eq, ByteArray.toList_eq, ByteArray.toList_eq]
  exact ⟨dat_inj, fun e => by rw [e]⟩
set_option maxRecDepth 100000 in
set_option maxHeartbeats 4000000 in
theorem ref16Get_any (w : World) (v : Value) (l : List NE) (p : ByteArray) (h : SlV w 5 eCSN v l) :
    Calls Tryz.prog 16 #[v, .string p] w fun e w' => e = .returned (.agg (refGetT l p).c) ∧ Below w.heap.size w w' := by
  obtain ⟨A, c, rfl, hc1, hc2, hsl⟩ := h
  obtain ⟨n, hn⟩ : ∃ n, l.length = n := ⟨_, rfl⟩
  rw [hn] at hc1 ⊢
  unfold maxLen at hc2
  have HL := Lib.hid hn; clear hn
  have HS := Lib.hid hsl; clear hsl
  have hb0 := (Below.refl w.heap.size w).alloc (Nat.le_refl _) (.cells #[.int .i64 0, .int .i64 0, .int .u32 0, .string ⟨#[]⟩] 30)
  have H0 := Lib.hid (And.intro hb0 (Blk.new w 30 #[.int .i64 0, .int .i64 0, .int .u32 0, .string ⟨#[]⟩])); clear hb0
  obtain ⟨G, hG⟩ : ∃ G, refGetT l p = G := ⟨_, rfl⟩
  rw [hG]
  have HG := Lib.hid hG; clear hG
  obtain ⟨T, hT⟩ : ∃ T, w.heap.size = T := ⟨_, rfl⟩
  rw [hT] at H0
  go_enter Tryz.func16, Tryz.ntmps16
  go_wp2_with fail
  go_loopw [9] (fun iv wr => ∃ i : Nat, i ≤ n ∧ iv = .int .i64 i ∧ (∀ m (hm : m < l.length), m < i → ¬ l[m].1 = p) ∧ Blk wr T 30 #[.int .i64 0, .int .i64 0, .int .u32 0, .string ⟨#[]⟩] ∧ Below T w wr) (fun iv _ => n - (intOf iv).toNat)
  case atStart => exact ⟨0, Nat.zero_le _, rfl, fun m h h' => absurd h' (Nat.not_lt_zero _), H0.out.2, H0.out.1⟩
  case round =>
    obtain ⟨i, hi, rfl, hall, hB, hb⟩ := hrel
    have HA := Lib.hid hall; clear hall
    by_cases hlt : i < n
    · have hiL : i < l.length := by have := HL.out; omega
      obtain ⟨b, off, rfl, hbb, hcs⟩ := (HS.out.below (B := w.heap.size) (by rw [hT]; exact hb) (Nat.le_refl _)) (by omega)
      have c0 := hcs i hiL 0 (by omega)
      have c1 := hcs i hiL 1 (by omega)
      have c2 := hcs i hiL 2 (by omega)
      have c3 := hcs i hiL 3 (by omega)
      have c4 := hcs i hiL 4 (by omega)
      simp only [eCSN, List.getElem?_cons_succ, List.getElem?_cons_zero, Nat.add_zero] at c0 c1 c2 c3 c4
      clear hcs
      have hi1 : (i : Int) < n := by omega
      have hse := str_eq l[i].1 p
      have hgh := fun hk => refGetT_hit l p i hiL HA.out hk
      have hgn := fun (hk : ¬ l[i].1 = p) m (hm : m < l.length) (h : m < i + 1) => (by
        by_cases h2 : m < i
        · exact HA.out m hm h2
        · obtain rfl : m = i := by omega
          exact hk : ¬ l[m].1 = p)
      obtain ⟨x, hx⟩ : ∃ x, l[i] = x := ⟨_, rfl⟩
      rw [hx] at hse
      simp only [hx] at c0 c1 c2 c3 c4 hgh hgn
      have hba := (Below.refl wr.heap.size wr).alloc (Nat.le_refl _) (.cells #[.string x.1, .int .i64 x.2.kind, .int .i64 x.2.mode, .int .u32 x.2.time, .string x.2.data] 32)
      have hB1 := hB.below hba hB.lt
      have hb1 := hb.trans (hba.mono (by rw [← hT]; exact hb.size))
      have HX := Lib.hid (And.intro hgh hgn); clear hgh hgn hx
      by_cases hk : x.1 = p
      · rw [decide_eq_true hk] at hse
        have hg := HX.out.1 hk
        rw [HG.out] at hg
        have x0 := hB1.cell 0
        have x1 := hB1.cell 1
        have x2 := hB1.cell 2
        have x3 := hB1.cell 3
        have f0 := hB1.frozen 0
        have f1 := hB1.frozen 1
        have f2 := hB1.frozen 2
        have f3 := hB1.frozen 3
        simp at x0 x1 x2 x3
        have HF := Lib.hid (And.intro hB1 (And.intro hb1 hg)); clear hB1 hb1 hg hba hB hb hk
        go_wp2_with fail
        refine bodyPost_ret (v := .agg #[.int .i64 x.2.kind, .int .i64 x.2.mode, .int .u32 x.2.time, .string x.2.data]) (results_cell_row rfl _ _ T 30 #[.int .i64 x.2.kind, .int .i64 x.2.mode, .int .u32 x.2.time, .string x.2.data] (0, 0) _ rfl ((((HF.out.1.put 0 (.int .i64 x.2.kind)).put 1 (.int .i64 x.2.mode)).put 2 (.int .u32 x.2.time)).put 3 (.string x.2.data)) Tryz.underlying30 rfl infoVSN) rfl ⟨by rw [HF.out.2.2]; rfl, ?_⟩
        exact ((((HF.out.2.1.setCell (p := ⟨T, 0, none⟩) (Nat.le_refl _) (.int .i64 x.2.kind)).setCell (p := ⟨T, 1, none⟩) (Nat.le_refl _) (.int .i64 x.2.mode)).setCell (p := ⟨T, 2, none⟩) (Nat.le_refl _) (.int .u32 x.2.time)).setCell (p := ⟨T, 3, none⟩) (Nat.le_refl _) (.string x.2.data)).mono (Nat.le_of_eq hT)
      · rw [decide_eq_false hk] at hse
        have HF := Lib.hid (And.intro hB1 (And.intro hb1 (HX.out.2 hk))); clear hB1 hb1 hba hB hb hk
        go_wp2_with fail
        go_roundw
        case rel => exact ⟨i + 1, by omega, by go_num, HF.out.2.2, HF.out.1, HF.out.2.1⟩
        case measure => simp [intOf]; omega
    · obtain rfl : i = n := by omega
      have hg := refGetT_none l p (fun m hm => HA.out m hm (by have := HL.out; omega))
      rw [HG.out] at hg
      have x0 := hB.cell 0
      have x1 := hB.cell 1
      have x2 := hB.cell 2
      have x3 := hB.cell 3
      have f0 := hB.frozen 0
      have f1 := hB.frozen 1
      have f2 := hB.frozen 2
      have f3 := hB.frozen 3
      simp at x0 x1 x2 x3
      have HF := Lib.hid (And.intro hB (And.intro hb hg)); clear hB hb hg
      go_wp2_with fail
      refine bodyPost_ret (v := .agg #[.int .i64 0, .int .i64 0, .int .u32 0, .string ⟨#[]⟩]) (results_cell_row rfl _ _ T 30 #[.int .i64 0, .int .i64 0, .int .u32 0, .string ⟨#[]⟩] (0, 0) _ rfl ((((HF.out.1.put 0 (.int .i64 0)).put 1 (.int .i64 0)).put 2 (.int .u32 0)).put 3 (.string ⟨#[]⟩)) Tryz.underlying30 rfl infoVSN) rfl ⟨by rw [HF.out.2.2]; rfl, ?_⟩
      exact ((((HF.out.2.1.setCell (p := ⟨T, 0, none⟩) (Nat.le_refl _) (.int .i64 0)).setCell (p := ⟨T, 1, none⟩) (Nat.le_refl _) (.int .i64 0)).setCell (p := ⟨T, 2, none⟩) (Nat.le_refl _) (.int .u32 0)).setCell (p := ⟨T, 3, none⟩) (Nat.le_refl _) (.string ⟨#[]⟩)).mono (Nat.le_of_eq hT)
set_option maxRecDepth 100000 in
set_option maxHeartbeats 4000000 in
theorem ref16Under_any (w : World) (p q : ByteArray) (hq : q.size ≤ 90000) :
    Calls Tryz.prog 17 #[.string p, .string q] w fun e w' => e = .returned (.bool (inS (upsS q) p)) ∧ Below w.heap.size w w' := by
  have HU := Lib.hid (refUps_any w q hq)
  obtain ⟨R, hR⟩ : ∃ R, inS (upsS q) p = R := ⟨_, rfl⟩
  rw [hR]
  have HR := Lib.hid hR; clear hR
  obtain ⟨l, hl⟩ : ∃ l, upsS q = l := ⟨_, rfl⟩
  rw [hl] at HU HR
  clear hl hq
  go_enter Tryz.func17, Tryz.ntmps17
  go_wp2_with fail
  refine HU.out.mono ?_
  rintro e w1 ⟨v, rfl, s, hb1⟩
  obtain ⟨A, c, rfl, hc1, hc2, hsl⟩ := s
  obtain ⟨n, hn⟩ : ∃ n, l.length = n := ⟨_, rfl⟩
  rw [hn] at hc1 ⊢
  unfold maxLen at hc2
  have HL := Lib.hid hn; clear hn
  have HS := Lib.hid hsl; clear hsl
  have HB := Lib.hid hb1; clear hb1 HU
  go_wp2_with fail
  go_loopw [6, 10] (fun _ iv wr => ∃ i : Nat, i ≤ n ∧ iv = .int .i64 i ∧ (∀ m (hm : m < l.length), m < i → ¬ l[m] = p) ∧ w1 = wr) (fun _ iv _ => n - (intOf iv).toNat)
  case atStart => exact ⟨0, Nat.zero_le _, rfl, fun m h h' => absurd h' (Nat.not_lt_zero _), rfl⟩
  case round =>
    obtain ⟨i, hi, rfl, hall, rfl⟩ := hrel
    have HA := Lib.hid hall; clear hall
    by_cases hlt : i < n
    · have hiL : i < l.length := by have := HL.out; omega
      obtain ⟨b, off, rfl, hbb, hcs⟩ := HS.out (by omega)
      have c0 := hcs i hiL 0 (by omega)
      simp [bE] at c0
      clear hcs
      have hi1 : (i : Int) < n := by omega
      have hse := str_eq l[i] p
      have hgh := fun (hk : l[i] = p) => (by
        rw [← HR.out]
        exact (inS_iff l p).2 (by rw [← hk]; exact List.getElem_mem hiL) : R = true)
      have hgn := fun (hk : ¬ l[i] = p) m (hm : m < l.length) (h : m < i + 1) => (by
        by_cases h2 : m < i
        · exact HA.out m hm h2
        · obtain rfl : m = i := by omega
          exact hk : ¬ l[m] = p)
      obtain ⟨x, hx⟩ : ∃ x, l[i] = x := ⟨_, rfl⟩
      rw [hx] at hse
      simp only [hx] at c0 hgh hgn
      have HX := Lib.hid (And.intro hgh hgn); clear hgh hgn hx
      by_cases hk : x = p
      · rw [decide_eq_true hk] at hse
        have HF := Lib.hid (HX.out.1 hk)
        have HSE := Lib.hid hse
        subst hk
        go_wp2_with fail
        go_ret
        exact ⟨by rw [HF.out]; rfl, HB.out⟩
      · rw [decide_eq_false hk] at hse
        have HF := Lib.hid (HX.out.2 hk); clear hk
        go_wp2_with fail
        go_roundw
        case rel => exact ⟨i + 1, by omega, by go_num, HF.out, by trivial⟩
        case measure => simp [intOf]; omega
    · obtain rfl : i = n := by omega
      have hg : R = false := by
        rw [← HR.out]
        cases hq : inS l p with
        | false => rfl
        | true =>
          obtain ⟨m, hm, he⟩ := List.mem_iff_getElem.1 ((inS_iff l p).1 hq)
          exact absurd he (HA.out m hm (by have := HL.out; omega))
      have HF := Lib.hid hg; clear hg
      go_wp2_with fail
      go_ret
      exact ⟨by rw [HF.out]; rfl, HB.out⟩
set_option maxRecDepth 100000 in
set_option maxHeartbeats 4000000 in
theorem ref16Holds_any (w : World) (v : Value) (l : List NE) (p : ByteArray) (h : SlV w 5 eCSN v l) (hok : ∀ e ∈ l, e.1.size ≤ 90000) :
    Calls Tryz.prog 50 #[v, .string p] w fun e w' => e = .returned (.bool (l.any fun e => inS (upsS e.1) p)) ∧ Below w.heap.size w w' := by
  obtain ⟨A, c, rfl, hc1, hc2, hsl⟩ := h
  obtain ⟨n, hn⟩ : ∃ n, l.length = n := ⟨_, rfl⟩
  rw [hn] at hc1 ⊢
  unfold maxLen at hc2
  have HL := Lib.hid hn; clear hn
  have HS := Lib.hid hsl; clear hsl
  have HOK := Lib.hid hok; clear hok
  obtain ⟨R, hR⟩ : ∃ R, (l.any fun e => inS (upsS e.1) p) = R := ⟨_, rfl⟩
  rw [hR]
  have HR := Lib.hid hR; clear hR
  go_enter Tryz.func50, Tryz.ntmps50
  go_wp2_with fail
  go_loopw [9] (fun iv wr => ∃ i : Nat, i ≤ n ∧ iv = .int .i64 i ∧ (∀ m (hm : m < l.length), m < i → inS (upsS l[m].1) p = false) ∧ Below w.heap.size w wr) (fun iv _ => n - (intOf iv).toNat)
  case atStart => exact ⟨0, Nat.zero_le _, rfl, fun m h h' => absurd h' (Nat.not_lt_zero _), Below.refl _ _⟩
  case round =>
    obtain ⟨i, hi, rfl, hall, hb⟩ := hrel
    have HA := Lib.hid hall; clear hall
    by_cases hlt : i < n
    · have hiL : i < l.length := by have := HL.out; omega
      obtain ⟨b, off, rfl, hbb, hcs⟩ := (HS.out.below hb (Nat.le_refl _)) (by omega)
      have c0 := hcs i hiL 0 (by omega)
      have c1 := hcs i hiL 1 (by omega)
      have c2 := hcs i hiL 2 (by omega)
      have c3 := hcs i hiL 3 (by omega)
      have c4 := hcs i hiL 4 (by omega)
      simp only [eCSN, List.getElem?_cons_succ, List.getElem?_cons_zero, Nat.add_zero] at c0 c1 c2 c3 c4
      clear hcs
      have hi1 : (i : Int) < n := by omega
      have hgh := fun (hk : inS (upsS l[i].1) p = true) => (by
        rw [← HR.out, List.any_eq_true]
        exact ⟨l[i], List.getElem_mem hiL, hk⟩ : R = true)
      have hgn := fun (hk : inS (upsS l[i].1) p = false) m (hm : m < l.length) (h : m < i + 1) => (by
        by_cases h2 : m < i
        · exact HA.out m hm h2
        · obtain rfl : m = i := by omega
          exact hk : inS (upsS l[m].1) p = false)
      have hxk := HOK.out l[i] (List.getElem_mem hiL)
      obtain ⟨x, hx⟩ : ∃ x, l[i] = x := ⟨_, rfl⟩
      rw [hx] at hxk
      simp only [hx] at c0 c1 c2 c3 c4 hgh hgn
      have hba := (Below.refl wr.heap.size wr).alloc (Nat.le_refl _) (.cells #[.string x.1, .int .i64 x.2.kind, .int .i64 x.2.mode, .int .u32 x.2.time, .string x.2.data] 32)
      have HU := Lib.hid (ref16Under_any (wr.alloc (.cells #[.string x.1, .int .i64 x.2.kind, .int .i64 x.2.mode, .int .u32 x.2.time, .string x.2.data] 32)) p x.1 hxk)
      have HB := Lib.hid (hb.trans (hba.mono hb.size))
      have HX := Lib.hid (And.intro hgh hgn); clear hgh hgn hx hba hb hxk
      obtain ⟨r, hr⟩ : ∃ r, inS (upsS x.1) p = r := ⟨_, rfl⟩
      rw [hr] at HU HX
      clear hr
      cases r with
      | true =>
        have hrt := HX.out.1 (by trivial)
        have HRT := Lib.hid hrt; clear hrt HX
        go_wp2_with fail
        refine HU.out.mono ?_
        rintro e w2 ⟨rfl, hb2⟩
        have HB2 := Lib.hid (HB.out.trans (hb2.mono HB.out.size)); clear hb2
        go_wp2_with fail
        go_ret
        exact ⟨by rw [HRT.out]; rfl, HB2.out⟩
      | false =>
        have hrt := HX.out.2 (by trivial)
        have HRT := Lib.hid hrt; clear hrt HX
        go_wp2_with fail
        refine HU.out.mono ?_
        rintro e w2 ⟨rfl, hb2⟩
        have HB2 := Lib.hid (HB.out.trans (hb2.mono HB.out.size)); clear hb2
        go_wp2_with fail
        go_roundw
        case rel => exact ⟨i + 1, by omega, by go_num, HRT.out, HB2.out⟩
        case measure => simp [intOf]; omega
    · obtain rfl : i = n := by omega
      have hg : R = false := by
        rw [← HR.out, List.any_eq_false]
        intro e he
        obtain ⟨m, hm, rfl⟩ := List.mem_iff_getElem.1 he
        rw [HA.out m hm (by have := HL.out; omega)]
        simp
      have HF := Lib.hid (And.intro hg hb); clear hg hb
      go_wp2_with fail
      go_ret
      exact ⟨by rw [HF.out.1]; rfl, HF.out.2⟩
end Go.Proofs.YtcpmhjealiajpaaGreatDoor
/- append(out, l...): the source any slice that reads as a list, nil let in. Over any program. -/
set_option linter.unusedVariables false
set_option linter.unusedSimpArgs false
namespace Sw
open Go Go.RowKit
section
variable {P : Program}
theorem run_app_nilc (w : World) (base : Nat) (t ty e : TypeId) (i : TypeInfo) (size : Nat) (ht : P.underlying t = some (.slice e)) (hi : P.info? e = some i) (v : Value) (n : Nat) (xs : List Value) (hown : w.ownsRow base e size v n xs) (c : Nat) :
    (Builtin.append_ #[t, t] ty #[v, .slice none 0 c]).run P w = .ok v w := by
  obtain ⟨A, k, rfl, hnk, _, _⟩ := SlV_of_any hown
  cases A <;> simp [Builtin.append_, run_underlying ht, Builtin.lenOf, Builtin.firstCells, Go.sizeOf, typeInfo, hi, hnk, Go.loadCells, Go.storeCells]
/-- 'append(s, x...)': s the call's own row, x any slice that reads as the list l -/
theorem wpList_app_slv {w : World} {ops : Array Oper} {rest : List Oper} {o : Oper} {a : Act} {Q : Exit → Act → World → Prop} (hgd : o.guard = none) (s x : Operand) (t : TypeId)
    (ho : o.op = .call { callee := .builtin .append, args := #[s, x], argTypes := #[t, t] })
    (base : Nat) (e : TypeId) (z : Value) (size bytes : Nat) (ht : P.underlying t = some (.slice e)) (hi : (P.info? e).map (fun i => (i.zero, i.size, i.bytes)) = some (some z, size, bytes)) (hzs : z.cells.size = size) (hsz : 0 < size)
    (v : Value) (n : Nat) (xs : List Value) (hs : a.eval s = v) (hown : w.ownsRow base e size v n xs)
    {α : Type} (E : α → List Value) (hE : ∀ y, (E y).length = size) (hE1 : ∀ y, ∀ u ∈ E y, u.oneCell' = true) (u : Value) (l : List α) (hx : a.eval x = u) (hu : SlV w size E u l)
    (hn : n + l.length ≤ 1000000) (hby : bytes ≤ 1000000) (hbase : base ≤ w.heap.size)
    (h : ∀ v' w', w'.ownsRow base e size v' (n + l.length) (xs ++ l.flatMap E) → w.grownBy w' v.ownBlock → wpList P ops Q rest (a.put o.dst v') w') : wpList P ops Q (o :: rest) a w := by
  obtain ⟨i, hi0, hz, hs2, hb⟩ := info_parts hi
  obtain ⟨A, c, rfl, hc1, hc2, hsl⟩ := hu
  cases A with
  | none =>
    have h0 : l = [] := by
      cases l with
      | nil => rfl
      | cons y l => obtain ⟨b, off, h, _⟩ := hsl (by simp); cases h
    subst h0
    have hrun := run_app_nilc w base t o.type e i size ht hi0 v n xs hown c
    refine wpList_plain hgd fun K hK => ?_
    unfold Oper.wp
    simp only [List.length_nil] at hx
    simp [execOp, ho, resolve, invoke, builtin, hs, hx, hrun, Result.andThen]
    exact hK _ _ (h v w (by simpa using hown) (grown_refl _ _))
  | some ad =>
    have hlen : (l.flatMap E).length = l.length * size := flat_len hE l
    refine wpList_append_own (w := w) hgd s x t ho base e i z size bytes ht hi0 hz hs2 hb hzs hsz v n xs hs hown ad l.length c (l.flatMap E) hx hlen ?_ ?_ (by unfold maxLen; omega) ?_ hbase (fun v' w' h1 h2 _ => h v' w' h1 h2)
    · intro j q hj
      have hjl := (List.getElem?_eq_some_iff.1 hj).1
      rw [hlen] at hjl
      have hpos : 0 < l.length := by
        rcases Nat.eq_zero_or_pos l.length with h0 | h0
        · rw [h0] at hjl; omega
        · exact h0
      obtain ⟨b, off, hA, _, hcs⟩ := hsl hpos
      rw [Option.some.inj hA, add_mk]
      have hq : j / size < l.length := Nat.div_lt_of_lt_mul (by rw [Nat.mul_comm]; exact hjl)
      have hr : j % size < size := Nat.mod_lt _ hsz
      have hd : j / size * size + j % size = j := by rw [Nat.mul_comm]; exact Nat.div_add_mod j size
      have h1 := flat_get hE l (j / size) hq (j % size) hr
      rw [hd, hj] at h1
      have h2 := hcs (j / size) hq (j % size) hr
      rw [Nat.add_assoc, hd] at h2
      rw [h2, ← h1]
    · intro q hq
      rw [List.mem_flatMap] at hq
      obtain ⟨y, _, hy⟩ := hq
      exact hE1 y q hy
    · calc (n + l.length) * bytes ≤ 1000000 * 1000000 := Nat.mul_le_mul hn hby
        _ ≤ 140737488355328 := by decide
end
end Sw
/- The reference's rows of items: Without. -/
set_option linter.unusedVariables false
set_option linter.unusedSimpArgs false
namespace Go.Proofs.YtcpmhjealiajpaaGreatDoor
open Go Go.RowKit
open Sw
theorem itC_one (e : NE) : ∀ u ∈ eCSN e, u.oneCell' = true := eCSN_one e
/-- an item is appended to a row of items -/
theorem OwnIt.app {w' : World} {base g cap n : Nat} {l : List NE} {x : NE} (h : w'.ownsRow base 32 5 (.slice (some ⟨g, 0, none⟩) (n + 1) cap) (n + 1) (l.flatMap eCSN ++ [.string x.1, .int .i64 x.2.kind, .int .i64 x.2.mode, .int .u32 x.2.time, .string x.2.data])) (hn : l.length = n) : OwnIt w' base (.slice (some ⟨g, 0, none⟩) (n + 1) cap) (l ++ [x]) := by
  unfold OwnIt
  rw [List.length_append, List.length_singleton, hn, List.flatMap_append]
  simpa [eCSN] using h
set_option maxRecDepth 100000 in
set_option maxHeartbeats 4000000 in
theorem ref16Without_any (w : World) (v : Value) (l : List NE) (p : ByteArray) (h : SlV w 5 eCSN v l) (hl : l.length ≤ 1000) :
    Calls Tryz.prog 51 #[v, .string p] w fun e w' => ∃ r, e = .returned r ∧ OwnIt w' w.heap.size r (l.filter fun e => !decide (e.1 = p)) ∧ Below w.heap.size w w' := by
  obtain ⟨A, c, rfl, hc1, hc2, hsl⟩ := h
  obtain ⟨n, hn⟩ : ∃ n, l.length = n := ⟨_, rfl⟩
  rw [hn] at hc1 hl ⊢
  unfold maxLen at hc2
  have HL := Lib.hid hn; clear hn
  have HS := Lib.hid hsl; clear hsl
  go_enter Tryz.func51, Tryz.ntmps51
  go_wp2_with fail
  go_loopw [5, 10] (fun ov iv wr => ∃ i : Nat, i ≤ n ∧ iv = .int .i64 i ∧ OwnIt wr w.heap.size ov ((l.take i).filter fun e => !decide (e.1 = p)) ∧ Below w.heap.size w wr) (fun _ iv _ => n - (intOf iv).toNat)
  case atStart => exact ⟨0, Nat.zero_le _, rfl, World.ownsRow_nil _ _ _ _, Below.refl _ _⟩
  case round =>
    obtain ⟨i, hi, rfl, ho, hb⟩ := hrel
    obtain ⟨A3, c3, rfl, -, -, -⟩ := SlV_of_any ho
    by_cases hlt : i < n
    · have hiL : i < l.length := by have := HL.out; omega
      obtain ⟨b, off, rfl, hbb, hcs⟩ := (HS.out.below hb (Nat.le_refl _)) (by omega)
      have c0 := hcs i hiL 0 (by omega)
      have c1 := hcs i hiL 1 (by omega)
      have c2 := hcs i hiL 2 (by omega)
      have c3' := hcs i hiL 3 (by omega)
      have c4 := hcs i hiL 4 (by omega)
      simp only [eCSN, List.getElem?_cons_succ, List.getElem?_cons_zero, Nat.add_zero] at c0 c1 c2 c3' c4
      clear hcs
      have hi1 : (i : Int) < n := by omega
      have hse := str_eq l[i].1 p
      have htk : (l.take (i + 1)).filter (fun e => !decide (e.1 = p)) = (l.take i).filter (fun e => !decide (e.1 = p)) ++ [l[i]].filter (fun e => !decide (e.1 = p)) := by rw [List.take_succ_eq_append_getElem hiL, List.filter_append]
      have hll : ((l.take i).filter fun e => !decide (e.1 = p)).length ≤ 1000 := Nat.le_trans (List.length_filter_le _ _) (by rw [List.length_take]; omega)
      obtain ⟨x, hx⟩ : ∃ x, l[i] = x := ⟨_, rfl⟩
      rw [hx] at hse
      simp only [hx] at c0 c1 c2 c3' c4 htk
      obtain ⟨L, hLL⟩ : ∃ L, (l.take i).filter (fun e => !decide (e.1 = p)) = L := ⟨_, rfl⟩
      rw [hLL] at htk hll ho
      rw [hLL]
      obtain ⟨m, hm⟩ : ∃ m, L.length = m := ⟨_, rfl⟩
      have hR1 : wr.ownsRow w.heap.size 32 5 (.slice A3 m c3) m (L.flatMap eCSN) := by have := ho; unfold OwnIt at this; rw [hm] at this; exact this
      rw [hm] at hll
      rw [hm]
      have HTK := Lib.hid (And.intro htk (And.intro hLL (And.intro hx hm)))
      have HR := Lib.hid (And.intro hR1 hb); clear htk hLL hx hm ho hR1
      have hgW : w.heap.size ≤ wr.heap.size := hb.size
      clear hb
      by_cases hk : x.1 = p
      · rw [decide_eq_true hk] at hse
        have hse2 : (!(x.1.toList == p.toList)) = false := by rw [hse]; rfl
        have hf : [x].filter (fun e => !decide (e.1 = p)) = [] := by simp [hk]
        have HF := Lib.hid (show OwnIt (wr.alloc (.cells #[.string x.1, .int .i64 x.2.kind, .int .i64 x.2.mode, .int .u32 x.2.time, .string x.2.data] 32)) w.heap.size (.slice A3 m c3) ((l.take (i + 1)).filter fun e => !decide (e.1 = p)) from by
          rw [HTK.out.1, hf, List.append_nil]; unfold OwnIt; rw [HTK.out.2.2.2]; exact HR.out.1.alloc _)
        clear hf hk
        go_wp2_with fail
        go_roundw
        case rel => exact ⟨i + 1, by omega, by go_num, HF.out, HR.out.2.alloc HR.out.2.size _⟩
        case measure => simp [intOf]; omega
      · rw [decide_eq_false hk] at hse
        have hse2 : (!(x.1.toList == p.toList)) = true := by rw [hse]; rfl
        have hf : [x].filter (fun e => !decide (e.1 = p)) = [x] := by simp [hk]
        have HFX := Lib.hid hf; clear hf hk
        have hb12 : Below wr.heap.size wr ((wr.alloc (.cells #[.string x.1, .int .i64 x.2.kind, .int .i64 x.2.mode, .int .u32 x.2.time, .string x.2.data] 32)).alloc (.cells #[.string x.1, .int .i64 x.2.kind, .int .i64 x.2.mode, .int .u32 x.2.time, .string x.2.data] 32)) := ((Below.refl _ _).alloc (Nat.le_refl _) _).alloc (by simp) _
        have HB12 := Lib.hid hb12; clear hb12
        go_wp2_with (at_builtin; refine wpList_app rfl _ _ 22 rfl w.heap.size 32 (.agg #[.string ⟨#[]⟩, .int .i64 0, .int .i64 0, .int .u32 0, .string ⟨#[]⟩]) 5 56 Tryz.underlying22 infoIt rfl (by decide) _ m _ rfl ((HR.out.1.alloc _).alloc _) (wr.heap.size + 1) 1 #[.string x.1, .int .i64 x.2.kind, .int .i64 x.2.mode, .int .u32 x.2.time, .string x.2.data] 32 rfl (blk_snd _ _ _ _) rfl (by simp [Value.oneCell']) (by omega) (by decide) (by simp; omega) _ rfl ?_; intro g cap w5 hown1 hgrow1 hat hlt1; have HA := Lib.hid (And.intro hown1 hgrow1); clear hown1 hgrow1 hat hlt1)
        go_roundw
        case rel => exact ⟨i + 1, by omega, by go_num, by rw [HTK.out.1, HFX.out]; exact OwnIt.app HA.out.1 HTK.out.2.2.2, (HR.out.2.trans (HB12.out.mono hgW)).grown HA.out.2 (Nat.le_trans hgW HB12.out.size) (fun k hk => (HR.out.1.lt k hk).1)⟩
        case measure => simp [intOf]; omega
    · obtain rfl : i = n := by omega
      have htk : l.take i = l := List.take_of_length_le (by have := HL.out; omega)
      rw [htk] at ho ⊢
      clear htk
      have HF := Lib.hid (And.intro ho hb); clear ho hb
      go_wp2_with fail
      go_ret
      exact ⟨_, rfl, HF.out.1, HF.out.2⟩
end Go.Proofs.YtcpmhjealiajpaaGreatDoor
/- tree.Items. -/
set_option linter.unusedVariables false
set_option linter.unusedSimpArgs false
namespace Go.Proofs.YtcpmhjealiajpaaGreatDoor
open Go Go.RowKit Go.Shelf
open Sw
attribute [local go_sem] Oper.semAt_some
/-- behind some words: the row in the box holds them, and the iterator lies as it lay -/
def ItI (T gb : Nat) (v : Value) (xs : List NE) (pre : List NE) (W : World) : Prop := gb < W.heap.size ∧ (∃ o, Blk W T 22 #[o] ∧ OwnIt W T o pre) ∧ Blk W gb 94 #[v] ∧ Lies W 103 5 eCSN v xs
theorem ItI.own (T gb : Nat) (v : Value) (xs : List NE) : Own (ItI T gb v xs) := fun _ A B row hs hg hr => ⟨Nat.lt_of_lt_of_le hs.1 hg.size, by obtain ⟨o, h1, h2⟩ := hs.2.1; exact ⟨o, blk_ownF h1 hg hr, own_ownF h2 hg hr⟩, blk_ownF hs.2.2.1 hg hr, hs.2.2.2.ownF hg hr⟩
theorem ItI.below {T gb : Nat} {v : Value} {xs pre : List NE} {A B : World} (hs : ItI T gb v xs pre A) (hb : Below A.heap.size A B) : ItI T gb v xs pre B := ⟨Nat.lt_of_lt_of_le hs.1 hb.size, by obtain ⟨o, h1, h2⟩ := hs.2.1; exact ⟨o, h1.below hb h1.lt, h2.below hb⟩, hs.2.2.1.below hb hs.2.2.1.lt, hs.2.2.2.below hb⟩
set_option maxRecDepth 100000 in
set_option maxHeartbeats 4000000 in
theorem treeItems_any (w : World) (bt bm : Nat) (xs : List NE) (h : TreeAt w bt bm xs) (hn : xs.length ≤ 1000) :
    Calls Tryz.prog 20 #[.pointer (some ⟨bt, 0, none⟩)] w fun e w' => ∃ r, e = .returned r ∧ OwnIt w' w.heap.size r xs ∧ Below w.heap.size w w' := by
  have b0 := Blk.new w 22 #[.slice none 0 0]
  have hB : Below w.heap.size w (w.alloc (.cells #[.slice none 0 0] 22)) := (Below.refl _ w).alloc (Nat.le_refl _) _
  have hT := h.below hB
  clear h
  refine callsIn_wide.1 (?_ : CallsIn Fence.wide 9 _ _ _ _ _)
  refine callsIn_of_wp_marks Tryz.func20 rfl trivial ?_ rfl
  simp only [Tryz.ntmps20, List.size_toArray, List.length_cons, List.length_nil, Nat.reduceAdd, Nat.reduceSub, Array.replicate_succ, Array.replicate_zero, List.push_toArray, List.append_toArray, List.nil_append, List.cons_append]
  have H0 := Lib.hid (And.intro b0 (And.intro hB hT)); clear b0 hB hT
  gi_wp2
  obtain ⟨w1, hw1⟩ : ∃ w1, w.alloc (.cells #[.slice none 0 0] 22) = w1 := ⟨_, rfl⟩
  rw [hw1] at H0
  rw [hw1]
  clear hw1
  refine ⟨trivial, (callsIn_wide.2 (treeAll_any w1 bt bm xs H0.out.2.2)).mono ?_⟩
  rintro e w2 ⟨gb, v, rfl, hgb, hL, hge, hvb, hb2⟩
  have B0 := H0.out.1.below hb2 H0.out.1.lt
  have hTgb : w.heap.size ≠ gb := by have := H0.out.1.lt; omega
  have HNE := Lib.hid hTgb; clear hTgb
  have hBw := H0.out.2.1.trans (hb2.mono H0.out.2.1.size)
  have hz2 : w.heap.size < w2.heap.size := B0.lt
  clear hb2 hge
  gi_wp2
  obtain ⟨T, hTe⟩ : ∃ T, T = w.heap.size := ⟨_, rfl⟩
  rw [← hTe] at B0 hBw hz2 HNE ⊢
  have HTE := Lib.hid hTe; clear hTe H0
  have hgl := hgb.lt
  refine wpIn_rangeFunc_tellW (Mine := fun _ => False) (fun _ h => h.elim) rfl (by omega) (gf := 116) (lb := #[.pointer (some ⟨gb, 0, none⟩)]) rfl trivial (enters_of Tryz.func116 (by kernel_rfl) rfl)
    (toldSN_tells 8 (by omega) gb v xs w2 hgb hL (by omega)) KeepIt.trans (keepIt_b hgl hvb) (Below.refl _ _) (fun _ => rfl)
    (fun pre W => ItI T gb v xs pre W ∧ Below T w W)
    (fun c pre W => False)
    (OwnM.of_none (OwnFrom.and (Own.from (ItI.own T gb v xs) _) (ownFrom_below (by have := HTE.out; omega) (by omega))))
    (fun c => OwnM.of_none (fun _ _ _ _ hs _ _ => hs.elim))
    ⟨⟨hgl, ⟨_, B0, World.ownsRow_nil _ _ _ _⟩, hgb, hL⟩, hBw⟩
    (fun x n₀ => { tmps := #[.pointer (some ⟨bt, 0, none⟩), undef, .pointer (some ⟨T, 0, none⟩), .string x.1, .pointer (some ⟨n₀, 0, none⟩), .pointer (some ⟨bt, 0, none⟩), .func (.func 116) #[] #[.pointer (some ⟨gb, 0, none⟩)], .string x.1, .agg x.2.c, undef, undef, undef, undef, undef, undef, undef], defers := [] }) (fun x W => W.alloc (.cells x.2.c 30))
    (fun x n₀ pre W => ItI T gb v xs pre W ∧ Below T w W ∧ Blk W n₀ 30 x.2.c) (fun x n₀ => OwnM.of_none (OwnFrom.and (Own.from (ItI.own T gb v xs) _) (OwnFrom.and (ownFrom_below (by have := HTE.out; omega) (by omega)) (Own.from (fun _ A B row hs hg hr => blk_ownF hs hg hr) _)))) ?made ?assign ?body ?done ?stop
  case assign =>
    rintro l ⟨q, kd, md, tm, dt⟩ n₀ W rfl K hK
    simp only [Nd.c] at hK ⊢
    gi_wp2
    exact hK
  case made =>
    rintro pre x W ⟨hI, hB⟩ hT
    have hba := (Below.refl W.heap.size W).alloc (Nat.le_refl _) (.cells x.2.c 30)
    obtain ⟨o, c0, _⟩ := hI.2.1
    refine ⟨⟨hI.below hba, hB.alloc (Nat.le_of_lt c0.lt) _, Blk.new _ _ _⟩, ?_, ?_⟩
    · exact keeps_belowF hba
    · exact .below hba hI.2.2.1.lt (fun g hg => by
        obtain ⟨r, hr⟩ := hT
        obtain ⟨A, c, rfl, _, _, hx⟩ := hI.2.2.2
        obtain ⟨g2, off, cur, rfl, hB, _⟩ := hx (by rw [← hr]; simp; omega)
        cases hg
        exact hB.lt)
  case body =>
    rintro l pre x n₀ W ⟨⟨hgl2, ⟨o, b1, ho⟩, hg, hL⟩, hB, hX⟩ hT
    have hx0 : 0 < xs.length := by obtain ⟨r, hr⟩ := hT; rw [← hr]; simp; omega
    have hpl : pre.length + 1 ≤ 1000 := by obtain ⟨r, hr⟩ := hT; have := congrArg List.length hr; simp at this; omega
    have x0 := hX.cell 0
    have x1 := hX.cell 1
    have x2 := hX.cell 2
    have x3 := hX.cell 3
    simp [Nd.c] at x0 x1 x2 x3
    have m1 := b1.cell 0
    have f1 := b1.frozen 0
    simp at m1
    obtain ⟨A3, c3, rfl, _, _, _⟩ := SlV_of_any ho
    have hTW := Nat.le_of_lt b1.lt
    have HH := Lib.hid (And.intro b1 (And.intro ho (And.intro hg (And.intro hL hB)))); clear b1 ho hg hL hB hX hT
    gi_wp2_with (gi_at_builtin; refine wpListIn_app rfl _ _ 22 rfl T 32 (.agg #[.string ⟨#[]⟩, .int .i64 0, .int .i64 0, .int .u32 0, .string ⟨#[]⟩]) 5 56 Tryz.underlying22 infoIt rfl (by decide) _ pre.length _ rfl (HH.out.2.1.alloc _) W.heap.size 1 #[.string x.1, .int .i64 x.2.kind, .int .i64 x.2.mode, .int .u32 x.2.time, .string x.2.data] 32 rfl (Blk.new _ _ _) rfl (by simp [Value.oneCell']) (by omega) (by decide) (by simp; omega) _ rfl ?_; intro g cap w5 hown1 hgrow1 hat hlt1; have hb5 := app_pre HH.out.1 HH.out.2.1 ((Below.refl _ _).alloc (Nat.le_refl _) _) hgrow1 (by decide); have c5 := hb5.cell 0; have f5 := hb5.frozen 0; simp at c5)
    have hA := app_body HH.out.1 HH.out.2.1 ((Below.refl _ _).alloc (Nat.le_refl _) _) hgrow1 hown1 (by omega) (Nat.le_refl _) (by decide)
    have hK := hA.keepIt HH.out.2.2.1 HH.out.2.2.2.1 hx0 (by decide) HNE.out.symm (by decide) (by decide)
    refine ⟨hA.keeps, hK, ⟨Nat.lt_of_lt_of_le hgl2 hA.below.size, ⟨_, hA.box, ?_⟩, hA.far _ _ _ HH.out.2.2.1 (by decide) HNE.out.symm, HH.out.2.2.2.1.kept (fun g cur h _ => hK.row g h)⟩, HH.out.2.2.2.2.trans hA.below⟩
    exact OwnIt.app hA.own rfl
  case done =>
    rintro D zs W hD hzs ⟨⟨_, ⟨o, b1, ho⟩, _, _⟩, hB⟩ hK
    have hz : zs = xs := hzs
    subst hz
    have m1 := b1.cell 0
    have f1 := b1.frozen 0
    simp at m1
    obtain ⟨A3, c3, rfl, _, _, _⟩ := SlV_of_any ho
    have hD' : w.heap.size ≤ D := by have := HTE.out; omega
    have HC := Lib.hid (And.intro b1 (And.intro ho (And.intro hB hK))); clear b1 ho hB hK hzs
    gi_wp2
    have hK2 : (W.setCell ⟨T, 0, none⟩ (.slice A3 zs.length c3)).heap[D]? = some (Obj.deferred (some [])) := (KeepsOthers.setCell W ⟨T, 0, none⟩ (.slice A3 zs.length c3)).same D _ HC.out.2.2.2 rfl
    have hR2 : Blk (W.setCell ⟨T, 0, none⟩ (.slice A3 zs.length c3)) T 22 #[.slice A3 zs.length c3] := HC.out.1.put 0 (.slice A3 zs.length c3)
    have hO2 : OwnIt (W.setCell ⟨T, 0, none⟩ (.slice A3 zs.length c3)) T (.slice A3 zs.length c3) zs := HC.out.2.1.kept (grown_put (grown_refl W (some T)) 0 _) (.inr (own_ne_blk HC.out.2.1 HC.out.1 (by decide)))
    have hB2 := HC.out.2.2.1.setCell (p := ⟨T, 0, none⟩) (Nat.le_refl _) (.slice A3 zs.length c3)
    have hw := fun r (e : some D = some r) => show ∃ o : Obj, (W.setCell ⟨T, 0, none⟩ (.slice A3 zs.length c3)).heap[r]? = some o ∧ o.isCells = false from (by cases e; exact ⟨_, hK2, rfl⟩)
    refine ⟨by simp, .inl ⟨_, _, rfl, run_takeDeferred hK2, ?_⟩⟩
    refine ⟨_, res_cell_sl rfl _ _ T 22 (.slice A3 zs.length c3) rfl (blk_ownF hR2 (grownBy_putObj' _ D (.deferred none)) hw) Tryz.underlying22, ⟨_, rfl, ?_, ?_⟩⟩
    · rw [← HTE.out]
      exact own_ownF hO2 (grownBy_putObj' _ D (.deferred none)) hw
    · exact (hB2.mono (by have := HTE.out; omega)).trans (belowK_b (w := w) (Nat.le_refl _) _ D _ _ hD' hK2 rfl rfl)
  case stop =>
    rintro D c pre W hD hSp h
    exact h.elim
end Go.Proofs.YtcpmhjealiajpaaGreatDoor
/- tree.Under$1: what Under leaves out. -/
set_option linter.unusedVariables false
set_option linter.unusedSimpArgs false
namespace Go.Proofs.YtcpmhjealiajpaaGreatDoor
open Go Go.RowKit
open Sw
/-- is an entry neither at a path nor under it? -/
def awayT (p : ByteArray) (x : NE) : Bool := !decide (x.1 = p) && !inS (upsS x.1) p
set_option maxRecDepth 100000 in
set_option maxHeartbeats 4000000 in
theorem treeUnder1_any (w : World) (g : Nat) (p : ByteArray) (x : NE) (hB : Blk w g 9 #[.string p]) (hp : p.size ≤ 90000) (hx : x.1.size ≤ 90000) :
    Calls Tryz.prog 62 #[.agg #[.string x.1, .int .i64 x.2.kind, .int .i64 x.2.mode, .int .u32 x.2.time, .string x.2.data], .pointer (some ⟨g, 0, none⟩)] w fun e w' => e = .returned (.bool (awayT p x)) ∧ Below w.heap.size w w' := by
  have c0 := hB.cell 0
  simp at c0
  have hg := hB.lt
  have hse := str_eq x.1 p
  have HU := Lib.hid (under_any (w.alloc (.cells #[.string x.1, .int .i64 x.2.kind, .int .i64 x.2.mode, .int .u32 x.2.time, .string x.2.data] 32)) p x.1 (by omega))
  have HB1 := Lib.hid ((Below.refl w.heap.size w).alloc (Nat.le_refl _) (.cells #[.string x.1, .int .i64 x.2.kind, .int .i64 x.2.mode, .int .u32 x.2.time, .string x.2.data] 32))
  clear hB
  unfold awayT
  by_cases hk : x.1 = p
  · rw [decide_eq_true hk] at hse ⊢
    have hse2 : (!(x.1.toList == p.toList)) = false := by rw [hse]; rfl
    clear hk
    go_enter Tryz.func62, Tryz.ntmps62
    go_wp2_with fail
    go_ret
    exact ⟨rfl, HB1.out⟩
  · rw [decide_eq_false hk] at hse ⊢
    have hse2 : (!(x.1.toList == p.toList)) = true := by rw [hse]; rfl
    clear hk
    generalize inS (upsS x.1) p = R at *
    go_enter Tryz.func62, Tryz.ntmps62
    go_wp2_with fail
    refine HU.out.mono ?_
    rintro _ w2 ⟨rfl, hb2⟩
    have HB2 := Lib.hid (HB1.out.trans (hb2.mono HB1.out.size)); clear hb2
    go_wp2_with fail
    go_ret
    exact ⟨by cases R <;> rfl, HB2.out⟩
end Go.Proofs.YtcpmhjealiajpaaGreatDoor
/- slices.Clone of a row of api.Item: the same elements, in memory of the call's own. -/
set_option linter.unusedVariables false
set_option linter.unusedSimpArgs false
namespace Go.Proofs.YtcpmhjealiajpaaGreatDoor
open Go Go.RowKit
open Sw
theorem infoEIT : (Tryz.prog.info? 32).map (fun i => (i.zero, i.size, i.bytes)) = some (some (.agg #[.string ⟨#[]⟩, .int .i64 0, .int .i64 0, .int .u32 0, .string ⟨#[]⟩]), 5, 56) := by kernel_rfl
end Go.Proofs.YtcpmhjealiajpaaGreatDoor
/- sorted.Map[string,swingle/api.Node]: what a map holds; find. -/
set_option linter.unusedVariables false
set_option linter.unusedSimpArgs false
namespace Go.Proofs.YtcpmhjealiajpaaGreatDoor
open Go Go.RowKit
open Sw
/-- an entry's cells -/
def eCIT (e : ByteArray × Nd) : List Value := [.string e.1, .int .i64 e.2.kind, .int .i64 e.2.mode, .int .u32 e.2.time, .string e.2.data]
theorem eCIT_len (e : ByteArray × Nd) : (eCIT e).length = 5 := rfl
theorem eCIT_one (e : ByteArray × Nd) : ∀ u ∈ eCIT e, u.oneCell' = true := by
  intro u hu
  simp only [eCIT, List.mem_cons, List.mem_append, List.not_mem_nil, or_false] at hu
  rcases hu with rfl | rfl | rfl | rfl | rfl <;> rfl
abbrev ordFIT : Value := .func (.func 47) #[] #[]
/-- the map in block bm holds the entries xs -/
structure SMapIT (w : World) (bm : Nat) (xs : List (ByteArray × Nd)) : Prop where
  row : ∃ v, Blk w bm 96 #[ordFIT, v] ∧ w.ownsRow 0 32 5 v xs.length (xs.flatMap eCIT)
  up : Up ordS xs
  ok : ∀ e ∈ xs, okS e.1
end Go.Proofs.YtcpmhjealiajpaaGreatDoor
/- slices.Reverse of a row of api.Item that the call owns. -/
set_option linter.unusedVariables false
set_option linter.unusedSimpArgs false
namespace Go.Proofs.YtcpmhjealiajpaaGreatDoor
open Go Go.RowKit
open Sw
set_option maxRecDepth 100000 in
set_option maxHeartbeats 4000000 in
theorem slReverseIT_any (w : World) (base : Nat) (v : Value) (n : Nat) (l : List (ByteArray × Nd)) (hl : l.length = n) (hn : n ≤ 1000000) (hown : w.ownsRow base 32 5 v n (l.flatMap eCIT)) :
    Calls Tryz.prog 102 #[v] w fun e w' => e = .returned (.tuple #[]) ∧ w'.ownsRow base 32 5 v n (l.reverse.flatMap eCIT) ∧ w.grownBy w' v.ownBlock := by
  have HO := Lib.hid hown
  have HL := Lib.hid hl; clear hl
  obtain ⟨A, c, rfl, hc1, hc2, _⟩ := SlV_of_any hown
  clear hown
  go_enter Tryz.func102, Tryz.ntmps102
  go_wp2_with fail
  go_loopw [2, 3] (fun iv jv wr => ∃ i : Nat, iv = .int .i64 i ∧ jv = .int .i64 ((n : Int) - 1 - i) ∧ 2 * i ≤ n + 1 ∧ wr.ownsRow base 32 5 (.slice A n c) n ((rvL i l).flatMap eCIT) ∧ w.grownBy wr (Value.slice A n c).ownBlock) (fun iv jv _ => (intOf jv - intOf iv + 1).toNat)
  case atStart => exact ⟨0, rfl, by simp, by omega, by rw [rvL_zero]; exact HO.out, grown_refl _ _⟩
  case round =>
    obtain ⟨i, rfl, rfl, hin, ho, hg⟩ := hrel
    have hrl := rvL_len i l
    have HR := Lib.hid (And.intro ho hg); clear ho hg
    by_cases hlt : (i : Int) < (n : Int) - 1 - i
    · obtain ⟨j, hj⟩ : ∃ j : Nat, (n : Int) - 1 - i = j := ⟨n - 1 - i, by omega⟩
      have hji : i < j := by omega
      have hjn : j < n := by omega
      have hjx : j = n - 1 - i := by omega
      obtain ⟨g, cap, cur, hA, hbg, hB, hnc, hcm, hcs, htk⟩ := own_form HR.out.1 (by omega)
      obtain ⟨rfl, rfl⟩ : A = some ⟨g, 0, none⟩ ∧ c = cap := by injection hA with e1 e2 e3; exact ⟨e1, e3⟩
      have hcell := fun (m : Nat) (hm : m < n) (q : Nat) (hq : q < 5) => (by
        have hm' : m < (rvL i l).length := by rw [hrl, HL.out]; exact hm
        have h1 := flat_get eCIT_len (rvL i l) m hm' q hq
        have h2 : m * 5 + q < n * 5 := by have : (m + 1) * 5 ≤ n * 5 := Nat.mul_le_mul_right _ hm; omega
        rw [hB.cell, ← Array.getElem?_toList, ← h1, ← htk, List.getElem?_take, if_pos h2] : wr.cell? ⟨g, m * 5 + q, none⟩ = (eCIT ((rvL i l)[m]'(by rw [hrl, HL.out]; exact hm)))[q]?)
      have hjl : j < (rvL i l).length := by rw [hrl, HL.out]; exact hjn
      have hil : i < (rvL i l).length := by rw [hrl, HL.out]; omega
      have hstep : rvL (i + 1) l = ((rvL i l).set i (rvL i l)[j]).set j (rvL i l)[i] := by
        have := rvL_step i l (by have := HL.out; omega)
        have hx : l.length - 1 - i = j := by have := HL.out; omega
        simp only [hx] at this
        exact this
      obtain ⟨x, hx⟩ : ∃ x, (rvL i l)[i] = x := ⟨_, rfl⟩
      obtain ⟨y, hy⟩ : ∃ y, (rvL i l)[j] = y := ⟨_, rfl⟩
      have hci := hcell i (by omega)
      have hcj := hcell j hjn
      simp only [hx] at hci
      simp only [hy] at hcj
      rw [hx, hy] at hstep
      have a0 : wr.cell? ⟨g, i * 5, none⟩ = _ := hci 0 (by omega)
      have a1 : wr.cell? ⟨g, i * 5 + 1, none⟩ = _ := hci 1 (by omega)
      have a2 : wr.cell? ⟨g, i * 5 + 2, none⟩ = _ := hci 2 (by omega)
      have a3 : wr.cell? ⟨g, i * 5 + 3, none⟩ = _ := hci 3 (by omega)
      have a4 : wr.cell? ⟨g, i * 5 + 4, none⟩ = _ := hci 4 (by omega)
      simp only [eCIT, List.getElem?_cons_succ, List.getElem?_cons_zero] at a0 a1 a2 a3 a4
      have b0 : wr.cell? ⟨g, j * 5, none⟩ = _ := hcj 0 (by omega)
      have b1 : wr.cell? ⟨g, j * 5 + 1, none⟩ = _ := hcj 1 (by omega)
      have b2 : wr.cell? ⟨g, j * 5 + 2, none⟩ = _ := hcj 2 (by omega)
      have b3 : wr.cell? ⟨g, j * 5 + 3, none⟩ = _ := hcj 3 (by omega)
      have b4 : wr.cell? ⟨g, j * 5 + 4, none⟩ = _ := hcj 4 (by omega)
      simp only [eCIT, List.getElem?_cons_succ, List.getElem?_cons_zero] at b0 b1 b2 b3 b4
      have fa0 := hB.frozen (i * 5)
      have fa1 := hB.frozen (i * 5 + 1)
      have fa2 := hB.frozen (i * 5 + 2)
      have fa3 := hB.frozen (i * 5 + 3)
      have fa4 := hB.frozen (i * 5 + 4)
      have fb0 := hB.frozen (j * 5)
      have fb1 := hB.frozen (j * 5 + 1)
      have fb2 := hB.frozen (j * 5 + 2)
      have fb3 := hB.frozen (j * 5 + 3)
      have fb4 := hB.frozen (j * 5 + 4)
      have HST := Lib.hid (by
        have h1 := own_setCells (eCIT y) (i * 5) wr _ HR.out.1 (by rw [eCIT_len]; omega)
        have f1 := flat_put eCIT_len (rvL i l) i hil y 0 (eCIT y) (by rw [eCIT_len]; omega) (by simp [eCIT_len])
        simp only [Nat.add_zero] at f1
        rw [f1] at h1
        have h2 := own_setCells (eCIT x) (j * 5) _ _ h1 (by rw [eCIT_len]; omega)
        have f2 := flat_put eCIT_len ((rvL i l).set i y) j (by rw [List.length_set]; exact hjl) x 0 (eCIT x) (by rw [eCIT_len]; omega) (by simp [eCIT_len])
        simp only [Nat.add_zero] at f2
        rw [f2, ← hstep] at h2
        exact And.intro h2 (grown_setCells (eCIT x) (j * 5) _ (grown_setCells (eCIT y) (i * 5) wr HR.out.2)))
      clear hcell hci hcj hstep hx hy hB htk hcs
      rw [hj]
      have q1 : (j : Int) < n := by omega
      have q2 : (i : Int) < n := by omega
      have q3 : (i : Int) < j := by omega
      have q4 : i < j := hji
      have HJ := Lib.hid hj; clear hj hjx
      go_wp2_with fail
      go_region
      all_goals
        go_wp2_with fail
        go_roundw
        case rel => exact ⟨i + 1, by go_num, by have := HJ.out; go_num, by omega, own_drew HST.out.1, grown_drew HST.out.2⟩
        case measure => simp [intOf]; omega
    · have hF : rvL i l = l.reverse := rvL_end i l (by have := HL.out; omega)
      rw [hF] at HR
      go_wp2_with fail
      go_end0
      exact ⟨rfl, HR.out.1, HR.out.2⟩
end Go.Proofs.YtcpmhjealiajpaaGreatDoor
/- slices.Insert of one element into a row of api.Item that the call owns. -/
set_option linter.unusedVariables false
set_option linter.unusedSimpArgs false
namespace Go.Proofs.YtcpmhjealiajpaaGreatDoor
open Go Go.RowKit
open Sw
/-- behind the call: a row with one more element -/
def InsPostIT (base n : Nat) (xs : List Value) (row : Option Nat) (w : World) (e : Ending) (w' : World) : Prop :=
  ∃ g cap, e = .returned (.slice (some ⟨g, 0, none⟩) (n + 1) cap) ∧ w'.ownsRow base 32 5 (.slice (some ⟨g, 0, none⟩) (n + 1) cap) (n + 1) xs ∧ w.grownBy w' row ∧ (row = some g ∨ w.heap.size ≤ g)
end Go.Proofs.YtcpmhjealiajpaaGreatDoor
/- slices.Delete of one element out of a row of api.Item that the call owns. -/
set_option linter.unusedVariables false
set_option linter.unusedSimpArgs false
namespace Go.Proofs.YtcpmhjealiajpaaGreatDoor
open Go Go.RowKit
open Sw
/-- behind the call: a row with one element less -/
def DelPostIT (base n : Nat) (xs : List Value) (row : Option Nat) (w : World) (e : Ending) (w' : World) : Prop :=
  ∃ v, e = .returned v ∧ w'.ownsRow base 32 5 v n xs ∧ w.grownBy w' row ∧ v.ownBlock = row
end Go.Proofs.YtcpmhjealiajpaaGreatDoor
