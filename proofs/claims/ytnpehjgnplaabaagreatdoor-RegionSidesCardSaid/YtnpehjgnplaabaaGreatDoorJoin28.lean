/- Several texts, joined for the limit of sixty files; each one opens with its own comment. -/
import Derived.Test.YtnpehjgnplaabaaGreatDoorJoin24
import Derived.Test.YtnpehjgnplaabaaGreatDoorJoin13
import Derived.Test.YtnpehjgnplaabaaGreatDoorJoin2
import Derived.Test.YtnpehjgnplaabaaGreatDoorJoin25
import Derived.Test.YtnpehjgnplaabaaGreatDoorJoin26
import Derived.Test.YtnpehjgnplaabaaGreatDoorJoin27
import Derived.Test.YtnpehjgnplaabaaGreatDoorJoin19
import Derived.Maps.OwnSet
/- Several texts, joined for the limit of sixty files; each one opens with its own comment. -/
/- Which side is taken: region.Policy, Name, Newest, Side, items; the reference's Newest, Side, one. -/
set_option linter.unusedVariables false
set_option linter.unusedSimpArgs false
namespace Sw
open Go
theorem newN_take (l : List NE) (i : Nat) (h : i < l.length) : newN (l.take (i + 1)) = max (newN (l.take i)) l[i].2.time := by
  unfold newN
  rw [List.take_succ_eq_append_getElem h, List.foldl_append]
  rfl
end Sw
namespace Go.Proofs.YtnpehjgnplaabaaGreatDoor
open Go Go.RowKit
open Sw
theorem regPolicy_any (w : World) (p : Int) :
    Calls Tryz.prog 15 #[.int .i64 p] w fun e w' => e = .returned (.bool (decide (0 ≤ p ∧ p ≤ 3))) ∧ w' = w := by
  by_cases h1 : 0 ≤ p
  · by_cases h2 : p ≤ 3
    · rw [decide_eq_true (show 0 ≤ p ∧ p ≤ 3 from ⟨h1, h2⟩)]
      go_enter Tryz.func15, Tryz.ntmps15
      go_wp2_with fail
      go_ret
      exact ⟨rfl, rfl⟩
    · rw [decide_eq_false (show ¬ (0 ≤ p ∧ p ≤ 3) from fun h => h2 h.2)]
      go_enter Tryz.func15, Tryz.ntmps15
      go_wp2_with fail
      go_ret
      exact ⟨rfl, rfl⟩
  · rw [decide_eq_false (show ¬ (0 ≤ p ∧ p ≤ 3) from fun h => h1 h.1)]
    go_enter Tryz.func15, Tryz.ntmps15
    go_wp2_with fail
    go_ret
    exact ⟨rfl, rfl⟩
set_option maxRecDepth 100000 in
set_option maxHeartbeats 4000000 in
theorem regNewest_any (w : World) (v : Value) (l : List NE) (h : SlV w 5 eCSN v l) :
    Calls Tryz.prog 17 #[v] w fun e w' => e = .returned (.int .u32 (newN l)) ∧ Below w.heap.size w w' := by
  obtain ⟨A, c, rfl, hc1, hc2, hsl⟩ := h
  obtain ⟨n, hn⟩ : ∃ n, l.length = n := ⟨_, rfl⟩
  rw [hn] at hc1 ⊢
  unfold maxLen at hc2
  have HL := Lib.hid hn; clear hn
  have HS := Lib.hid hsl; clear hsl
  go_enter Tryz.func17, Tryz.ntmps17
  go_wp2_with fail
  go_loopw [2, 7] (fun tv iv wr => ∃ (i : Nat) (t : Int), i ≤ n ∧ iv = .int .i64 i ∧ tv = .int .u32 t ∧ t = newN (l.take i) ∧ Below w.heap.size w wr) (fun _ iv => fun _ => n - (intOf iv).toNat)
  case atStart => exact ⟨0, 0, Nat.zero_le _, rfl, rfl, rfl, Below.refl _ _⟩
  case round =>
    obtain ⟨i, t, hi, rfl, rfl, ht, hb⟩ := hrel
    by_cases hlt : i < n
    · have hiL : i < l.length := by have := HL.out; omega
      obtain ⟨b, off, rfl, hbb, hcs⟩ := (HS.out.below hb (Nat.le_refl _)) (by omega)
      have c0 := hcs i hiL 0 (by omega)
      have c1 := hcs i hiL 1 (by omega)
      have c2 := hcs i hiL 2 (by omega)
      have c3 := hcs i hiL 3 (by omega)
      have c4 := hcs i hiL 4 (by omega)
      simp only [eCSN, List.getElem?_cons_succ, List.getElem?_cons_zero, Nat.add_zero] at c0 c1 c2 c3 c4
      clear hcs
      have hi1 : (i : Int) < n := by omega
      have hst := newN_take l i hiL
      rw [← ht] at hst
      obtain ⟨x, hx⟩ : ∃ x, l[i] = x := ⟨_, rfl⟩
      simp only [hx] at c0 c1 c2 c3 c4 hst
      clear hx
      obtain ⟨p, ka, kb, kc, kd⟩ := x
      simp only at c0 c1 c2 c3 c4 hst
      have HST := Lib.hid hst
      have HB := Lib.hid (hb.alloc hb.size (.cells #[.string p, .int .i64 ka, .int .i64 kb, .int .u32 kc, .string kd] 59))
      clear hst hb ht
      go_wp2_with fail
      go_roundw
      case rel => exact ⟨i + 1, max t kc, by omega, by go_num, by first | rfl | go_num, HST.out.symm, HB.out⟩
      case measure => simp [intOf]; omega
    · obtain rfl : i = n := by omega
      have htk : l.take i = l := List.take_of_length_le (by have := HL.out; omega)
      rw [htk] at ht
      have HF := Lib.hid (And.intro ht hb)
      clear ht hb htk
      go_wp2_with fail
      go_ret
      exact ⟨by rw [← HF.out.1]; rfl, HF.out.2⟩
set_option maxRecDepth 100000 in
set_option maxHeartbeats 4000000 in
theorem refNewest_any (w : World) (v : Value) (l : List NE) (h : SlV w 5 eCSN v l) :
    Calls Tryz.prog 18 #[v] w fun e w' => e = .returned (.int .u32 (newN l)) ∧ Below w.heap.size w w' := by
  obtain ⟨A, c, rfl, hc1, hc2, hsl⟩ := h
  obtain ⟨n, hn⟩ : ∃ n, l.length = n := ⟨_, rfl⟩
  rw [hn] at hc1 ⊢
  unfold maxLen at hc2
  have HL := Lib.hid hn; clear hn
  have HS := Lib.hid hsl; clear hsl
  go_enter Tryz.func18, Tryz.ntmps18
  go_wp2_with fail
  go_loopw [3, 8] (fun tv iv wr => ∃ (i : Nat) (t : Int), i ≤ n ∧ iv = .int .i64 i ∧ tv = .int .u32 t ∧ t = newN (l.take i) ∧ Below w.heap.size w wr) (fun _ iv => fun _ => n - (intOf iv).toNat)
  case atStart => exact ⟨0, 0, Nat.zero_le _, rfl, rfl, rfl, Below.refl _ _⟩
  case round =>
    obtain ⟨i, t, hi, rfl, rfl, ht, hb⟩ := hrel
    by_cases hlt : i < n
    · have hiL : i < l.length := by have := HL.out; omega
      obtain ⟨b, off, rfl, hbb, hcs⟩ := (HS.out.below hb (Nat.le_refl _)) (by omega)
      have c0 := hcs i hiL 0 (by omega)
      have c1 := hcs i hiL 1 (by omega)
      have c2 := hcs i hiL 2 (by omega)
      have c3 := hcs i hiL 3 (by omega)
      have c4 := hcs i hiL 4 (by omega)
      simp only [eCSN, List.getElem?_cons_succ, List.getElem?_cons_zero, Nat.add_zero] at c0 c1 c2 c3 c4
      clear hcs
      have hi1 : (i : Int) < n := by omega
      have hst := newN_take l i hiL
      rw [← ht] at hst
      obtain ⟨x, hx⟩ : ∃ x, l[i] = x := ⟨_, rfl⟩
      simp only [hx] at c0 c1 c2 c3 c4 hst
      clear hx
      obtain ⟨p, ka, kb, kc, kd⟩ := x
      simp only at c0 c1 c2 c3 c4 hst
      have HST := Lib.hid hst
      have HB := Lib.hid (hb.alloc hb.size (.cells #[.string p, .int .i64 ka, .int .i64 kb, .int .u32 kc, .string kd] 59))
      clear hst hb ht
      by_cases hg : t < kc
      · have HG := Lib.hid (show kc = max t kc by omega)
        go_wp2_with fail
        go_roundw
        case rel => exact ⟨i + 1, kc, by omega, by go_num, rfl, by rw [HST.out]; exact HG.out, HB.out⟩
        case measure => simp [intOf]; omega
      · have HG := Lib.hid (show t = max t kc by omega)
        go_wp2_with fail
        go_roundw
        case rel => exact ⟨i + 1, t, by omega, by go_num, rfl, by rw [HST.out]; exact HG.out, HB.out⟩
        case measure => simp [intOf]; omega
    · obtain rfl : i = n := by omega
      have htk : l.take i = l := List.take_of_length_le (by have := HL.out; omega)
      rw [htk] at ht
      have HF := Lib.hid (And.intro ht hb)
      clear ht hb htk
      go_wp2_with fail
      go_ret
      exact ⟨by rw [← HF.out.1]; rfl, HF.out.2⟩
set_option maxRecDepth 100000 in
set_option maxHeartbeats 4000000 in
theorem regSide_any (w : World) (p : Int) (u v : Value) (a b : List NE) (ha : SlV w 5 eCSN u a) (hb : SlV w 5 eCSN v b) :
    Calls Tryz.prog 19 #[.int .i64 p, u, v] w fun e w' => e = .returned (.int .i64 (sideN p a b)) ∧ Below w.heap.size w w' := by
  have HP := Lib.hid (regPolicy_any w p)
  have HN1 := Lib.hid (regNewest_any w u a ha)
  have HN2 := Lib.hid (fun W (h : Below w.heap.size w W) => regNewest_any W v b (hb.below h (Nat.le_refl _)))
  have hs : sideN p a b = if p = 3 then (if newN a < newN b then 2 else 1) else if p = 1 ∨ p = 2 then p else 0 := rfl
  rw [hs]
  clear hs
  generalize newN a = na at *
  generalize newN b = nb at *
  obtain ⟨A1, c1, rfl, _, _, _⟩ := ha
  obtain ⟨A2, c2, rfl, _, _, _⟩ := hb
  generalize a.length = n1 at *
  generalize b.length = n2 at *
  by_cases h3 : p = 3
  · subst h3
    rw [if_pos rfl]
    by_cases hl : na < nb
    · rw [if_pos hl]
      go_enter Tryz.func19, Tryz.ntmps19
      go_wp2_with fail
      refine HN1.out.mono ?_
      rintro e w1 ⟨rfl, hb1⟩
      have H1 := Lib.hid hb1; clear hb1 HN1
      go_wp2_with fail
      refine (HN2.out w1 H1.out).mono ?_
      rintro e w2 ⟨rfl, hb2⟩
      have H2 := Lib.hid (H1.out.trans (hb2.mono H1.out.size)); clear hb2 HN2
      go_wp2_with fail
      go_ret
      exact ⟨rfl, H2.out⟩
    · rw [if_neg hl]
      go_enter Tryz.func19, Tryz.ntmps19
      go_wp2_with fail
      refine HN1.out.mono ?_
      rintro e w1 ⟨rfl, hb1⟩
      have H1 := Lib.hid hb1; clear hb1 HN1
      go_wp2_with fail
      refine (HN2.out w1 H1.out).mono ?_
      rintro e w2 ⟨rfl, hb2⟩
      have H2 := Lib.hid (H1.out.trans (hb2.mono H1.out.size)); clear hb2 HN2
      go_wp2_with fail
      go_ret
      exact ⟨rfl, H2.out⟩
  · rw [if_neg h3]
    have t3 : (p != 3) = true := by simpa using h3
    by_cases hr : 0 ≤ p ∧ p ≤ 3
    · rw [decide_eq_true hr] at HP
      have hv : (if p = 1 ∨ p = 2 then p else 0) = p := by
        by_cases h : p = 1 ∨ p = 2
        · rw [if_pos h]
        · rw [if_neg h]; omega
      rw [hv]
      clear hv h3 hr HN1 HN2
      go_enter Tryz.func19, Tryz.ntmps19
      go_wp2_with fail
      refine HP.out.mono ?_
      rintro e w1 ⟨rfl, rfl⟩
      go_wp2_with fail
      go_ret
      exact ⟨rfl, Below.refl _ _⟩
    · rw [decide_eq_false hr] at HP
      have hv : (if p = 1 ∨ p = 2 then p else 0) = 0 := by rw [if_neg (by omega)]
      rw [hv]
      clear hv h3 hr HN1 HN2
      go_enter Tryz.func19, Tryz.ntmps19
      go_wp2_with fail
      refine HP.out.mono ?_
      rintro e w1 ⟨rfl, rfl⟩
      go_wp2_with fail
      go_ret
      exact ⟨rfl, Below.refl _ _⟩
set_option maxRecDepth 100000 in
set_option maxHeartbeats 4000000 in
theorem refSide_any (w : World) (p : Int) (u v : Value) (a b : List NE) (ha : SlV w 5 eCSN u a) (hb : SlV w 5 eCSN v b) :
    Calls Tryz.prog 20 #[.int .i64 p, u, v] w fun e w' => e = .returned (.int .i64 (sideN p a b)) ∧ Below w.heap.size w w' := by
  have HN2 := Lib.hid (refNewest_any w v b hb)
  have HN1 := Lib.hid (fun W (h : Below w.heap.size w W) => refNewest_any W u a (ha.below h (Nat.le_refl _)))
  have hs : sideN p a b = if p = 3 then (if newN a < newN b then 2 else 1) else if p = 1 ∨ p = 2 then p else 0 := rfl
  rw [hs]
  clear hs
  generalize newN a = na at *
  generalize newN b = nb at *
  obtain ⟨A1, c1, rfl, _, _, _⟩ := ha
  obtain ⟨A2, c2, rfl, _, _, _⟩ := hb
  generalize a.length = n1 at *
  generalize b.length = n2 at *
  by_cases h3 : p = 3
  · subst h3
    rw [if_pos rfl]
    by_cases hl : na < nb
    · rw [if_pos hl]
      go_enter Tryz.func20, Tryz.ntmps20
      go_wp2_with fail
      refine HN2.out.mono ?_
      rintro e w1 ⟨rfl, hb1⟩
      have H1 := Lib.hid hb1; clear hb1 HN2
      go_wp2_with fail
      refine (HN1.out w1 H1.out).mono ?_
      rintro e w2 ⟨rfl, hb2⟩
      have H2 := Lib.hid (H1.out.trans (hb2.mono H1.out.size)); clear hb2 HN1
      go_wp2_with fail
      go_ret
      exact ⟨rfl, H2.out⟩
    · rw [if_neg hl]
      go_enter Tryz.func20, Tryz.ntmps20
      go_wp2_with fail
      refine HN2.out.mono ?_
      rintro e w1 ⟨rfl, hb1⟩
      have H1 := Lib.hid hb1; clear hb1 HN2
      go_wp2_with fail
      refine (HN1.out w1 H1.out).mono ?_
      rintro e w2 ⟨rfl, hb2⟩
      have H2 := Lib.hid (H1.out.trans (hb2.mono H1.out.size)); clear hb2 HN1
      go_wp2_with fail
      go_ret
      exact ⟨rfl, H2.out⟩
  · rw [if_neg h3]
    have t3 : (p == 3) = false := by simpa using h3
    clear HN1 HN2
    by_cases h1 : p = 1
    · subst h1
      rw [if_pos (.inl rfl)]
      go_enter Tryz.func20, Tryz.ntmps20
      go_wp2_with fail
      go_ret
      exact ⟨rfl, Below.refl _ _⟩
    · have t1 : (p == 1) = false := by simpa using h1
      by_cases h2 : p = 2
      · subst h2
        rw [if_pos (.inr rfl)]
        go_enter Tryz.func20, Tryz.ntmps20
        go_wp2_with fail
        go_ret
        exact ⟨rfl, Below.refl _ _⟩
      · have t2 : (p == 2) = false := by simpa using h2
        rw [if_neg (by omega)]
        clear h1 h2 h3
        go_enter Tryz.func20, Tryz.ntmps20
        go_wp2_with fail
        go_ret
        exact ⟨rfl, Below.refl _ _⟩
theorem one_some (p : ByteArray) (n : Nd) (h : ¬ n.kind = 0) : oneN p n = [(p, n)] := by unfold oneN; rw [if_neg h]
theorem one_none (p : ByteArray) (n : Nd) (h : n.kind = 0) : oneN p n = [] := by unfold oneN; rw [if_pos h]
set_option maxRecDepth 100000 in
set_option maxHeartbeats 4000000 in
theorem regItems_any (w : World) (p : ByteArray) (n : Nd) :
    Calls Tryz.prog 56 #[.string p, .agg n.c] w fun e w' => ∃ r, e = .returned r ∧ OwnIt w' w.heap.size r (oneN p n) ∧ Below w.heap.size w w' := by
  obtain ⟨ka, kb, kc, kd⟩ := n
  have hb0 := (Below.refl w.heap.size w).alloc (Nat.le_refl _) (.cells #[.int .i64 ka, .int .i64 kb, .int .u32 kc, .string kd] 57)
  have HB := Lib.hid hb0; clear hb0
  by_cases h : ka = 0
  · rw [one_none p _ h]
    subst h
    unfold Nd.c
    go_enter Tryz.func56, Tryz.ntmps56
    go_wp2_with fail
    go_ret
    exact ⟨_, rfl, World.ownsRow_nil _ _ _ _, HB.out⟩
  · rw [one_some p _ h]
    have t0 : (ka == 0) = false := by simpa using h
    clear h
    unfold Nd.c
    obtain ⟨W, hW⟩ : ∃ W, w.alloc (.cells #[.int .i64 ka, .int .i64 kb, .int .u32 kc, .string kd] 57) = W := ⟨_, rfl⟩
    rw [hW] at HB
    have HO := Lib.hid (show (W.alloc (.cells #[.string p, .int .i64 ka, .int .i64 kb, .int .u32 kc, .string kd] 59)).ownsRow w.heap.size 59 5 (.slice (some ⟨W.heap.size, 0, none⟩) 1 1) 1 [.string p, .int .i64 ka, .int .i64 kb, .int .u32 kc, .string kd] from
      ⟨rfl, .inr ⟨W.heap.size, 1, _, rfl, HB.out.size, Blk.new _ _ _, by omega, by unfold maxLen; omega, rfl, rfl⟩⟩)
    have HB2 := Lib.hid (HB.out.alloc HB.out.size (.cells #[.string p, .int .i64 ka, .int .i64 kb, .int .u32 kc, .string kd] 59))
    have HW := Lib.hid hW
    clear hW
    go_enter Tryz.func56, Tryz.ntmps56
    go_upto_region 1 with fail
    rw [HW.out]
    have x0 := (HW.out ▸ Blk.new w 57 #[.int .i64 ka, .int .i64 kb, .int .u32 kc, .string kd] : Blk W w.heap.size 57 #[.int .i64 ka, .int .i64 kb, .int .u32 kc, .string kd])
    have y0 := x0.cell 0
    have y1 := x0.cell 1
    have y2 := x0.cell 2
    have y3 := x0.cell 3
    simp only [List.getElem?_toArray, List.getElem?_cons_succ, List.getElem?_cons_zero] at y0 y1 y2 y3
    clear x0
    go_wp2_with fail
    go_ret
    exact ⟨_, rfl, HO.out, HB2.out⟩
end Go.Proofs.YtnpehjgnplaabaaGreatDoor
/- The rows of region's state grow. -/
set_option linter.unusedVariables false
set_option linter.unusedSimpArgs false
namespace Go.Proofs.YtnpehjgnplaabaaGreatDoor
open Go Go.RowKit
open Sw
section
variable {B0 : Nat} {w V w8 : World} {gs bt bt2 m0 m1 mc N : Nat} {policy : Int} {pv gv : Value} {ps gr : List ByteArray} {f0 f1 fc : ByteArray → Option Value}
/-- the row of the grafts has grown -/
theorem RgIn.graft (h : RgIn B0 w gs bt bt2 m0 m1 mc N policy pv gv ps gr f0 f1 fc) (hV : Below w.heap.size w V) (hg : V.grownBy w8 gv.ownBlock) {g n cap : Nat} {p : ByteArray} (hn : gr.length = n) (ho : w8.ownsRow B0 9 1 (.slice (some ⟨g, 0, none⟩) (n + 1) cap) (n + 1) (gr.map Value.string ++ [.string p])) (hat : gv.ownBlock = some g ∨ g = V.heap.size) :
    RgIn B0 (w8.setCell ⟨gs, 7, none⟩ (.slice (some ⟨g, 0, none⟩) (n + 1) cap)) gs bt bt2 m0 m1 mc N policy pv (.slice (some ⟨g, 0, none⟩) (n + 1) cap) ps (gr ++ [p]) f0 f1 fc ∧ Below B0 w (w8.setCell ⟨gs, 7, none⟩ (.slice (some ⟨g, 0, none⟩) (n + 1) cap)) := by
  have same8 : ∀ i, i < w.heap.size → gv.ownBlock ≠ some i → w8.heap[i]? = w.heap[i]? := fun i hi hne => (hg.block i (Nat.lt_of_lt_of_le hi hV.size) (fun e => hne e.symm)).trans (hV.block i hi)
  have same : ∀ i, i < w.heap.size → gv.ownBlock ≠ some i → i ≠ gs → (w8.setCell ⟨gs, 7, none⟩ (.slice (some ⟨g, 0, none⟩) (n + 1) cap)).heap[i]? = w.heap[i]? := fun i hi hne hgs => (Below.heap_setCell w8 ⟨gs, 7, none⟩ _ i hgs).trans (same8 i hi hne)
  have gsne : gv.ownBlock ≠ some gs := fun e => (h.neG e).1 rfl
  have hbox8 : Blk w8 gs 76 _ := (same8 gs h.box.lt gsne).trans h.box
  have hggs : g ≠ gs := by
    rcases hat with e | e
    · exact (h.neG e).1
    · have := h.box.lt; have := hV.size; omega
  refine ⟨⟨?_, h.mA.same (same m0 h.mA.lt (fun e => (h.neG e).2.1 rfl) h.neA.symm), h.mB.same (same m1 h.mB.lt (fun e => (h.neG e).2.2.1 rfl) h.neB.symm), h.mC.same (same mc h.mC.lt (fun e => (h.neG e).2.2.2 rfl) h.neC.symm), own_sameB h.rp (fun i hi => same i (h.rp.lt i hi).2 (fun e => h.apart i hi e) (h.neP hi).1), ?_, h.n01, h.n0c, h.n1c, fun i h1 h2 => ?_, h.bs, h.b0, h.b1, h.bc⟩, ?_⟩
  · have := hbox8.put 7 (.slice (some ⟨g, 0, none⟩) (n + 1) cap)
    simpa using this
  · have h2 := own_sameB (w' := w8.setCell ⟨gs, 7, none⟩ (.slice (some ⟨g, 0, none⟩) (n + 1) cap)) ho (fun i hi => by
      have e : i = g := by simpa [Value.ownBlock] using hi.symm
      subst e
      exact Below.heap_setCell w8 ⟨gs, 7, none⟩ _ i hggs)
    rw [List.length_append, List.length_singleton, hn, List.map_append]
    exact h2
  · have e : i = g := by simpa [Value.ownBlock] using h2.symm
    subst e
    rcases hat with e | e
    · exact h.apart i h1 e
    · have := (h.rp.lt i h1).2; have := hV.size; omega
  · have hB : B0 ≤ w.heap.size := Nat.le_trans h.bs (Nat.le_of_lt h.box.lt)
    exact ((hV.mono hB).grown hg (Nat.le_trans hB hV.size) (fun k hk => (h.rg.lt k hk).1)).setCell (p := ⟨gs, 7, none⟩) h.bs _
/-- the row of the paths has grown; its block is the old one, or new -/
theorem RgIn.path (h : RgIn B0 w gs bt bt2 m0 m1 mc N policy pv gv ps gr f0 f1 fc) (hV : Below w.heap.size w V) (hg : V.grownBy w8 pv.ownBlock) {g n cap : Nat} {p : ByteArray} (hn : ps.length = n) (ho : w8.ownsRow B0 9 1 (.slice (some ⟨g, 0, none⟩) (n + 1) cap) (n + 1) (ps.map Value.string ++ [.string p])) (hat : pv.ownBlock = some g ∨ g = V.heap.size) :
    RgIn B0 (w8.setCell ⟨gs, 3, none⟩ (.slice (some ⟨g, 0, none⟩) (n + 1) cap)) gs bt bt2 m0 m1 mc N policy (.slice (some ⟨g, 0, none⟩) (n + 1) cap) gv (ps ++ [p]) gr f0 f1 fc ∧ TurnB (fun i => i = gs ∨ pv.ownBlock = some i) w (w8.setCell ⟨gs, 3, none⟩ (.slice (some ⟨g, 0, none⟩) (n + 1) cap)) := by
  have same8 : ∀ i, i < w.heap.size → pv.ownBlock ≠ some i → w8.heap[i]? = w.heap[i]? := fun i hi hne => (hg.block i (Nat.lt_of_lt_of_le hi hV.size) (fun e => hne e.symm)).trans (hV.block i hi)
  have same : ∀ i, i < w.heap.size → pv.ownBlock ≠ some i → i ≠ gs → (w8.setCell ⟨gs, 3, none⟩ (.slice (some ⟨g, 0, none⟩) (n + 1) cap)).heap[i]? = w.heap[i]? := fun i hi hne hgs => (Below.heap_setCell w8 ⟨gs, 3, none⟩ _ i hgs).trans (same8 i hi hne)
  have gsne : pv.ownBlock ≠ some gs := fun e => (h.neP e).1 rfl
  have hbox8 : Blk w8 gs 76 _ := (same8 gs h.box.lt gsne).trans h.box
  have hggs : g ≠ gs := by
    rcases hat with e | e
    · exact (h.neP e).1
    · have := h.box.lt; have := hV.size; omega
  refine ⟨⟨?_, h.mA.same (same m0 h.mA.lt (fun e => (h.neP e).2.1 rfl) h.neA.symm), h.mB.same (same m1 h.mB.lt (fun e => (h.neP e).2.2.1 rfl) h.neB.symm), h.mC.same (same mc h.mC.lt (fun e => (h.neP e).2.2.2 rfl) h.neC.symm), ?_, own_sameB h.rg (fun i hi => same i (h.rg.lt i hi).2 (fun e => h.apart i e hi) (h.neG hi).1), h.n01, h.n0c, h.n1c, fun i h1 h2 => ?_, h.bs, h.b0, h.b1, h.bc⟩, ?_⟩
  · have := hbox8.put 3 (.slice (some ⟨g, 0, none⟩) (n + 1) cap)
    simpa using this
  · have h2 := own_sameB (w' := w8.setCell ⟨gs, 3, none⟩ (.slice (some ⟨g, 0, none⟩) (n + 1) cap)) ho (fun i hi => by
      have e : i = g := by simpa [Value.ownBlock] using hi.symm
      subst e
      exact Below.heap_setCell w8 ⟨gs, 3, none⟩ _ i hggs)
    rw [List.length_append, List.length_singleton, hn, List.map_append]
    exact h2
  · have e : i = g := by simpa [Value.ownBlock] using h1.symm
    subst e
    rcases hat with e | e
    · exact h.apart i e h2
    · have := (h.rg.lt i h2).2; have := hV.size; omega
  · exact ((TurnB.of_below hV).grown hg (fun k hk => .inl (.inr hk))).put ⟨gs, 3, none⟩ (.inl (.inl rfl)) _
end
end Go.Proofs.YtnpehjgnplaabaaGreatDoor
/- region's region: a path, and all under it, by one side. -/
set_option linter.unusedVariables false
set_option linter.unusedSimpArgs false
namespace Go.Proofs.YtnpehjgnplaabaaGreatDoor
open Go Go.RowKit
open Sw
theorem infoStrR : (Tryz.prog.info? 9).map (fun i => (i.zero, i.size, i.bytes)) = some (some (.string ⟨#[]⟩), 1, 16) := by kernel_rfl
theorem flat_sE : ∀ (l : List ByteArray), l.flatMap sE = l.map Value.string
  | [] => rfl
  | x :: l => by rw [List.flatMap_cons, flat_sE l]; rfl
theorem mem_sub_of_ins {l : List NP} {p q : ByteArray} (h : q ∈ insN l p) : q ∈ l.map NP.path := (List.mem_filter.1 h).1
/-- the state of a list of nodes -/
def RgAt (B0 : Nat) (w : World) (gs bt bt2 m0 m1 mc N : Nat) (policy : Int) (pv gv : Value) (l : List NP) (gr : List ByteArray) : Prop :=
  RgIn B0 w gs bt bt2 m0 m1 mc N policy pv gv (l.map NP.path) gr (lkN NP.left l) (lkN NP.right l) (lkC l)
theorem RgIn.more {B0 : Nat} {w : World} {gs bt bt2 m0 m1 mc N M : Nat} {policy : Int} {pv gv : Value} {ps gr : List ByteArray} {f0 f1 fc : ByteArray → Option Value} (h : RgIn B0 w gs bt bt2 m0 m1 mc N policy pv gv ps gr f0 f1 fc) (hM : N ≤ M) : RgIn B0 w gs bt bt2 m0 m1 mc M policy pv gv ps gr f0 f1 fc :=
  ⟨h.box, h.mA.mono hM, h.mB.mono hM, h.mC.mono hM, h.rp, h.rg, h.n01, h.n0c, h.n1c, h.apart, h.bs, h.b0, h.b1, h.bc⟩
set_option maxRecDepth 100000 in
set_option maxHeartbeats 16000000 in
theorem regRegion_any (B0 : Nat) (w : World) (gs bt bm bt2 bm2 m0 m1 mc N : Nat) (policy : Int) (pv gv : Value) (xs ys : List NE) (l : List NP) (gr : List ByteArray) (p : ByteArray)
    (h : RgAt B0 w gs bt bt2 m0 m1 mc N policy pv gv l gr) (hT : TreeAt w bt bm xs) (hT2 : TreeAt w bt2 bm2 ys) (hxl : xs.length ≤ 1000) (hyl : ys.length ≤ 1000) (hl : l.length ≤ 1000) (hgl : gr.length ≤ 1000) (hz : ∀ q ∈ l.map NP.path, q.size ≤ 90000) (hp : p ∈ l.map NP.path) (hN : N ≤ 100000000) (hB0 : B0 ≤ w.heap.size) :
    Calls Tryz.prog 28 #[.pointer (some ⟨gs, 0, none⟩), .string p] w fun e w' => e = .returned (.tuple #[]) ∧ ∃ gv', RgAt B0 w' gs bt bt2 m0 m1 mc (N + 1001) policy pv gv' (turnN policy xs ys l p) (if sideR policy xs ys p = 2 then gr ++ [p] else gr) ∧ Below B0 w w' := by
  have hps : p.size ≤ 90000 := hz p hp
  have hpk : okT p := Nat.le_trans hps (by unfold maxLen; omega)
  have hU1 := Lib.hid (fun W (k : TreeAt W bt bm xs) => treeUnder_any W bt bm xs p k hxl hps)
  have hU2 := Lib.hid (fun W (k : TreeAt W bt2 bm2 ys) => treeUnder_any W bt2 bm2 ys p k hyl hps)
  obtain ⟨side, hside⟩ : ∃ s, sideR policy xs ys p = s := ⟨_, rfl⟩
  have htm := turn_mid policy xs ys l p
  rw [hside] at htm ⊢
  have HS := Lib.hid (And.intro hside htm)
  obtain ⟨gr', hgr'⟩ : ∃ g, (if side = 2 then gr ++ [p] else gr) = g := ⟨_, rfl⟩
  rw [hgr']
  have HGR := Lib.hid hgr'
  clear hgr'
  have H0 := Lib.hid (And.intro h (And.intro hT hT2))
  have HZ := Lib.hid (And.intro hz (And.intro hp (And.intro hps hpk)))
  have hlt := (h : RgIn _ _ _ _ _ _ _ _ _ _ _ _ _ _ _ _ _).box.lt
  have z0 := (h : RgIn _ _ _ _ _ _ _ _ _ _ _ _ _ _ _ _ _).box.cell 0
  have z1 := (h : RgIn _ _ _ _ _ _ _ _ _ _ _ _ _ _ _ _ _).box.cell 1
  have z2 := (h : RgIn _ _ _ _ _ _ _ _ _ _ _ _ _ _ _ _ _).box.cell 2
  simp only [List.getElem?_toArray, List.getElem?_cons_succ, List.getElem?_cons_zero] at z0 z1 z2
  have k0 : ∀ m : Held (Aft w), (HeldW m).cell? ⟨gs, 0, none⟩ = some (.pointer (some ⟨bt, 0, none⟩)) := fun m => (Aft.cell m hlt).trans z0
  have k1 : ∀ m : Held (Aft w), (HeldW m).cell? ⟨gs, 1, none⟩ = some (.pointer (some ⟨bt2, 0, none⟩)) := fun m => (Aft.cell m hlt).trans z1
  have k2 : ∀ m : Held (Aft w), (HeldW m).cell? ⟨gs, 2, none⟩ = some (.int .i64 policy) := fun m => (Aft.cell m hlt).trans z2
  have HC0 := Lib.hid (Aft.start w)
  clear h hT hT2 hside htm hz hp hps hpk z0 z1 z2 hlt
  go_enter Tryz.func28, Tryz.ntmps28
  go_upto_region 0 with fail
  refine wp_region_mix (Aft w) [(0, true), (1, true), (2, true), (3, true), (4, true), (5, true), (6, true), (7, true), (8, true), (9, true), (11, true), (12, true), (13, true), (14, true), (15, true), (16, true), (10, false), (17, false), (18, false), (19, true)] (by kernel_rfl) (by kernel_rfl) ?_
  simp only [pickP, List.filterMap_cons, List.filterMap_nil, List.getElem?_toArray, List.getElem?_cons_succ, List.getElem?_cons_zero, Option.map_some]
  repeat (apply mix_first; apply Exists.intro; refine ⟨fun m => ?_, HC0.out, ?_⟩; · (go_big_quiet_step (fail); exact wpQuiet_nil rfl))
  refine mix_forced HC0.out ?_
  go_wp2_with fail
  refine (hU1.out _ (H0.out.2.1.below HC0.out)).mono ?_
  rintro e w1 ⟨r1, rfl, ho1, hb1⟩
  have HC1 := Lib.hid (show Aft w w1 from Aft.keep _ _ HC0.out hb1)
  have H1 := Lib.hid (ho1.slv)
  obtain ⟨A1, c1, rfl, -, -, -⟩ := SlV_of_any ho1
  clear ho1 hb1 HC0
  go_wp2_with fail
  show mixC _ _ _ _ _ _ _
  refine mix_forced HC1.out ?_
  go_wp2_with fail
  refine (hU2.out _ (H0.out.2.2.below HC1.out)).mono ?_
  rintro e w2 ⟨r2, rfl, ho2, hb2⟩
  have HC2 := Lib.hid (show Aft w w2 from Aft.keep _ _ HC1.out hb2)
  have HSD := Lib.hid (regSide_any w2 policy _ r2 (undT p xs) (undT p ys) (H1.out.below hb2 (Nat.le_refl _)) ho2.slv)
  obtain ⟨A2, c2, rfl, -, -, -⟩ := SlV_of_any ho2
  clear ho2 hb2 HC1 H1
  rw [show sideN policy (undT p xs) (undT p ys) = side from HS.out.1] at HSD
  generalize (undT p xs).length = n1 at *
  generalize (undT p ys).length = n2 at *
  go_wp2_with fail
  show mixC _ _ _ _ _ _ _
  refine mix_forced HC2.out ?_
  go_wp2_with fail
  refine HSD.out.mono ?_
  rintro e w3 ⟨rfl, hb3⟩
  have HC3 := Lib.hid (show Aft w w3 from Aft.keep _ _ HC2.out hb3)
  clear hb3 HC2 HSD
  go_wp2_with fail
  show mixC _ _ _ _ _ _ _
  repeat (apply mix_first; apply Exists.intro; refine ⟨fun m => ?_, HC3.out, ?_⟩; · (go_big_quiet_step (fail); exact wpQuiet_nil rfl))
  refine mix_nil HC3.out ?_
  clear k0 k1 k2 hU1 hU2
  have hr3 := (H0.out.1 : RgIn _ _ _ _ _ _ _ _ _ _ _ _ _ _ _ _ _).below HC3.out
  have H3 := Lib.hid (And.intro hr3 (And.intro (H0.out.2.1.below HC3.out) (H0.out.2.2.below HC3.out)))
  have HI := Lib.hid (regInside_any w3 gs bt bt2 m0 m1 mc policy pv gv (l.map NP.path) p hr3.box (SlV.of_own (by rw [flat_sE]; exact hr3.rp) sE_lenP (by decide)) (by rw [List.length_map]; omega) HZ.out.1)
  rw [show (l.map NP.path).filter (inQ p) = insN l p from rfl] at HI
  clear hr3
  go_wp2_with fail
  refine HI.out.mono ?_
  rintro e w4 ⟨u, rfl, hu, hb4⟩
  have hr4 := H3.out.1.below hb4
  have H4 := Lib.hid (And.intro hr4 (And.intro (H3.out.2.1.below hb4) (And.intro (H3.out.2.2.below hb4) (And.intro hu (And.intro ((HC3.out : Below w.heap.size w w3).trans (hb4.mono (HC3.out : Below w.heap.size w w3).size)) (fun i hi => H3.out.1.lt i hi))))))
  have hQl : (insN l p).length ≤ 1000 := by unfold insN; exact Nat.le_trans (List.length_filter_le _ _) (by rw [List.length_map]; exact hl)
  obtain ⟨Q, hQ⟩ : ∃ Q, insN l p = Q := ⟨_, rfl⟩
  have hQz : ∀ q ∈ Q, q ∈ l.map NP.path := fun q hq => mem_sub_of_ins (by rw [hQ]; exact hq)
  rw [hQ] at H4 hQl hu HS
  obtain ⟨A4, c4, rfl, -, -, -⟩ := SlV_of_any hu
  have HQ := Lib.hid (And.intro hQ hQz)
  obtain ⟨k, hk⟩ : ∃ k, Q.length = k := ⟨_, rfl⟩
  have HK := Lib.hid hk
  rw [hk] at H4 hQl ⊢
  clear hr4 hb4 hu hQ hQz hk HI H3
  go_wp2_with fail
  go_loopw [30] (fun iv wr => ∃ i : Nat, i ≤ k ∧ iv = .int .i64 i ∧ RgIn B0 wr gs bt bt2 m0 m1 mc (N + i) policy pv gv (l.map NP.path) gr (lkN NP.left (midN xs ys side l (Q.take i))) (lkN NP.right (midN xs ys side l (Q.take i))) (lkC (midN xs ys side l (Q.take i))) ∧ TurnB (fun j => j = m0 ∨ j = m1 ∨ j = mc) w4 wr) (fun iv _ => k - (intOf iv).toNat)
  case atStart => exact ⟨0, Nat.zero_le _, rfl, by rw [List.take_zero, midN_nil]; exact H4.out.1, TurnB.refl _ _⟩
  case round =>
    obtain ⟨i, hi, rfl, hR, htn⟩ := hrel
    by_cases hlt : i < k
    · have hiQ : i < Q.length := by have := HK.out; omega
      have hou := own_sameB H4.out.2.2.2.1 (w' := wr) (fun g hg => htn.block g (H4.out.2.2.2.1.lt g hg).2 (fun hf => by
        have h1 := (H4.out.2.2.2.1.lt g hg).1
        have h2 := H4.out.2.2.2.2.2 g (by rcases hf with rfl | rfl | rfl; exact .inr (.inl rfl); exact .inr (.inr (.inl rfl)); exact .inr (.inr (.inr (.inl rfl))))
        omega))
      obtain ⟨A', c', hA', _, _, hso⟩ := SlV.of_own hou sE_lenP (by decide)
      rw [HK.out] at hA'
      obtain ⟨rfl, rfl⟩ : A4 = A' ∧ c4 = c' := by injection hA' with e1 e2 e3; exact ⟨e1, e3⟩
      clear hA'
      obtain ⟨b, off, rfl, hbb, hcs⟩ := hso (by omega)
      have q0 := hcs i hiQ 0 (by omega)
      simp only [sE, List.getElem?_cons_zero, Nat.add_zero, Nat.mul_one] at q0
      clear hcs hso hou
      have hi1 : (i : Int) < k := by omega
      have hqm := HQ.out.2 _ (List.getElem_mem hiQ)
      have hms : midN xs ys side l (Q.take (i + 1)) = setN Q[i] (chosenN xs ys side Q[i] 0) (midN xs ys side l (Q.take i)) := by rw [List.take_succ_eq_append_getElem hiQ, midN_snoc]
      obtain ⟨q, hq⟩ : ∃ q, Q[i] = q := ⟨_, rfl⟩
      simp only [hq] at q0 hqm hms
      clear hq
      have hqz := HZ.out.1 q hqm
      have hqk : okT q := Nat.le_trans hqz (by unfold maxLen; omega)
      have hqm2 : q ∈ (midN xs ys side l (Q.take i)).map NP.path := by rw [midN_path]; exact hqm
      have hFF : ∀ V, RgIn B0 V gs bt bt2 m0 m1 mc (N + i) policy pv gv (l.map NP.path) gr (lkN NP.left (midN xs ys side l (Q.take i))) (lkN NP.right (midN xs ys side l (Q.take i))) (lkC (midN xs ys side l (Q.take i))) → True := fun _ _ => trivial
      have htx := H4.out.2.1.turnB htn (fun i t cs hf => by
        rcases hf with rfl | rfl | rfl
        · exact map_noblk H4.out.1.mA
        · exact map_noblk H4.out.1.mB
        · exact map_noblk H4.out.1.mC)
      have hty := H4.out.2.2.1.turnB htn (fun i t cs hf => by
        rcases hf with rfl | rfl | rfl
        · exact map_noblk H4.out.1.mA
        · exact map_noblk H4.out.1.mB
        · exact map_noblk H4.out.1.mC)
      have HTK := Lib.hid (regTake_any wr gs bt bm bt2 bm2 m0 m1 mc (N + i) policy pv gv _ _ xs ys q side hR.box hR.mA hR.mB hR.n01 (by unfold maxLen; omega) htx hty (by omega) (by omega) hqz)
      have HR := Lib.hid (And.intro hR (And.intro htn (And.intro hqm2 (And.intro hqk hms))))
      clear hR htn hqm hqm2 hms hFF htx hty hqz
      go_wp2_with fail
      refine HTK.out.mono ?_
      rintro e w5 ⟨rfl, hA5, hB5, ht5⟩
      have hR5 := HR.out.1.maps ht5 (M := N + i + 1) (by omega) hA5 hB5
      have z6 := hR5.box.cell 6
      simp only [List.getElem?_toArray, List.getElem?_cons_succ, List.getElem?_cons_zero] at z6
      have H5 := Lib.hid (And.intro hR5 (HR.out.2.1.trans ht5 (fun j hj => .inl (hj.imp id .inl))))
      clear hA5 hB5 ht5 hR5 HTK q0
      go_wp2_with (at_delete; refine wpList_dropV rfl _ _ 72 rfl 3 (keyStr Tryz.underlying9) Tryz.underlying72 mc (N + i + 1) _ rfl H5.out.1.mC q rfl HR.out.2.2.2.1 ?_; intro w6 hm6 hg6)
      have hR6 := H5.out.1.clash hg6 (Nat.le_refl _) hm6
      rw [← lkN_set (f := NP.left) (q := q) (m := chosenN xs ys side q 0) rfl _ HR.out.2.2.1, ← lkN_set (f := NP.right) (q := q) (m := chosenN xs ys side q 0) rfl _ HR.out.2.2.1, ← lkC_set (q := q) (m := chosenN xs ys side q 0) rfl rfl _ HR.out.2.2.1, ← HR.out.2.2.2.2] at hR6
      have H6 := Lib.hid (And.intro hR6 (H5.out.2.grown hg6 (fun g hg => by cases hg; exact .inl (.inr (.inr rfl)))))
      clear hm6 hg6 hR6
      go_wp2_with fail
      go_roundw
      case rel => exact ⟨i + 1, by omega, by go_num, by have := H6.out.1; rw [Nat.add_assoc] at this; exact this, H6.out.2⟩
      case measure => simp [intOf]; omega
    · obtain rfl : i = k := by omega
      rw [List.take_of_length_le (by have := HK.out; omega)] at hR
      have hpm : p ∈ (midN xs ys side l Q).map NP.path := by rw [midN_path]; exact HZ.out.2.1
      have z6 := hR.box.cell 6
      have z7 := hR.box.cell 7
      simp only [List.getElem?_toArray, List.getElem?_cons_succ, List.getElem?_cons_zero] at z6 z7
      have HE := Lib.hid (And.intro hR (And.intro htn hpm))
      clear hR htn hpm
      have hfin : ∀ V gv' gr', RgIn B0 V gs bt bt2 m0 m1 mc (N + i + 1) policy pv gv' (l.map NP.path) gr' (lkN NP.left (midN xs ys side l Q)) (lkN NP.right (midN xs ys side l Q)) (updV (lkC (midN xs ys side l Q)) p (.int .i64 4)) → RgAt B0 V gs bt bt2 m0 m1 mc (N + 1001) policy pv gv' (turnN policy xs ys l p) gr' := fun V gv' gr' hV => by
        unfold RgAt
        rw [turn_path, HS.out.2, lkN_cls (f := NP.left) (fun _ _ => rfl), lkN_cls (f := NP.right) (fun _ _ => rfl), lkC_cls (by decide) _ HE.out.2.2]
        exact hV.more (by omega)
      have HFIN := Lib.hid hfin
      have hlow : Below B0 w wr := (H4.out.2.2.2.2.1.mono hB0).trans (HE.out.2.1.to_below (Nat.le_trans hB0 H4.out.2.2.2.2.1.size) (fun j hj => by
        rcases hj with rfl | rfl | rfl
        · exact HE.out.1.b0
        · exact HE.out.1.b1
        · exact HE.out.1.bc))
      have HLOW := Lib.hid hlow
      have hwr : B0 ≤ wr.heap.size := Nat.le_trans hB0 hlow.size
      clear hfin hlow
      by_cases hs2 : side = 2
      · subst hs2
        obtain ⟨Ag, cg, egv, -, -, -⟩ := SlV_of_any HE.out.1.rg
        obtain ⟨ng, hng⟩ : ∃ n, gr.length = n := ⟨_, rfl⟩
        rw [hng] at egv hgl
        subst egv
        have HNG := Lib.hid hng
        clear hng
        go_wp2_with (first | (at_mapUpdate; refine wpList_storeV rfl _ _ _ 72 rfl 3 (keyStr Tryz.underlying9) Tryz.underlying72 mc (N + i) _ rfl HE.out.1.mC (by unfold maxLen; omega) p rfl HZ.out.2.2.2 (.int .i64 4) rfl ?_; intro w7 hm7 hg7; have hR7 := HE.out.1.clash hg7 (Nat.le_succ _) hm7; have HR7 := Lib.hid (And.intro hR7 (HLOW.out.grown hg7 hwr (fun k hk => by cases hk; exact HE.out.1.bc))); have y7 := hR7.box.cell 7; simp only [List.getElem?_toArray, List.getElem?_cons_succ, List.getElem?_cons_zero] at y7; clear hR7 hm7 hg7 z6 z7) | (at_builtin; go_loud (refine wpList_app rfl _ _ 34 rfl B0 9 (.string ⟨#[]⟩) 1 16 Tryz.underlying34 infoStrR rfl (by decide) _ ng (gr.map Value.string) rfl (own_kept (by have h9 := HR7.out.1.rg; rw [HNG.out] at h9; exact h9) ((Below.refl _ _).alloc (Nat.le_refl _) _)) w7.heap.size 1 #[.string p] 9 rfl (Blk.new w7 _ _) rfl (by simp [Value.oneCell']) (by omega) (by decide) (Nat.le_trans hB0 (Nat.le_trans HR7.out.2.size (by simp))) _ rfl ?_; intro g cap w8 ho8 hg8 hat8 hlt8; have hG := HR7.out.1.graft ((Below.refl _ w7).alloc (Nat.le_refl _) _) hg8 HNG.out ho8 hat8; have HG := Lib.hid hG; clear hG; have hb8 : Blk w8 gs 76 _ := (HR7.out.1.box.alloc (.cells #[.string p] 9)).grown hg8 (fun e => (HR7.out.1.neG e.symm).1 rfl); have c7 := hb8.cell 7; have f7 := hb8.frozen 7; simp only [List.getElem?_toArray, List.getElem?_cons_succ, List.getElem?_cons_zero] at c7; clear hb8 y7 ho8 hg8 hat8)))
        go_end0
        have hgr2 := HGR.out
        simp only [if_true] at hgr2
        have hfi := HFIN.out _ _ _ HG.out.1
        rw [hgr2] at hfi
        first | exact ⟨rfl, ⟨_, hfi⟩, HR7.out.2.trans HG.out.2⟩ | exact ⟨rfl, _, hfi, HR7.out.2.trans HG.out.2⟩
      · have t2 : (side == 2) = false := by simpa using hs2
        have hgr2 := HGR.out
        rw [if_neg hs2] at hgr2
        subst hgr2
        clear hs2
        go_wp2_with (at_mapUpdate; refine wpList_storeV rfl _ _ _ 72 rfl 3 (keyStr Tryz.underlying9) Tryz.underlying72 mc (N + i) _ rfl HE.out.1.mC (by unfold maxLen; omega) p rfl HZ.out.2.2.2 (.int .i64 4) rfl ?_; intro w7 hm7 hg7; have hR7 := HE.out.1.clash hg7 (Nat.le_succ _) hm7; have HR7 := Lib.hid (And.intro hR7 (HLOW.out.grown hg7 hwr (fun k hk => by cases hk; exact HE.out.1.bc))); clear hR7 hm7 hg7 z6 z7)
        go_end0
        exact ⟨rfl, _, HFIN.out _ _ _ HR7.out.1, HR7.out.2⟩
end Go.Proofs.YtnpehjgnplaabaaGreatDoor
