/- Several texts, joined for the limit of sixty files; each one opens with its own comment. -/
import Derived.Test.YtmpgmgjokliceaaGreatDoorJoin22
import Derived.Test.YtmpgmgjokliceaaGreatDoorJoin34
import Derived.Test.YtmpgmgjokliceaaGreatDoorJoin20
import Derived.Test.YtmpgmgjokliceaaGreatDoorJoin5
import Derived.Test.YtmpgmgjokliceaaGreatDoorJoin26
import Derived.Test.YtmpgmgjokliceaaGreatDoorJoin35
import Derived.Test.YtmpgmgjokliceaaGreatDoorJoin19
/- The reference's Same of rows of items. -/
set_option linter.unusedVariables false
set_option linter.unusedSimpArgs false
namespace Go.Proofs.YtmpgmgjokliceaaGreatDoor
open Go Go.RowKit
open Sw
set_option maxRecDepth 100000 in
theorem ne_print (p q : Pr) (W : World) : (binOp .neq 89 (.agg p.c) (.agg q.c)).run Tryz.prog W = .ok (.bool (!decide (p = q))) W := by
  obtain ⟨k1, m1, t1, z1, u1⟩ := p
  obtain ⟨k2, m2, t2, z2, u2⟩ := q
  unfold Pr.c
  by_cases h1 : k1 = k2
  · subst h1
    by_cases h2 : m1 = m2
    · subst h2
      by_cases h3 : t1 = t2
      · subst h3
        by_cases h4 : z1 = z2
        · subst h4
          by_cases h5 : u1 = u2
          · subst h5
            simp [go_sem, Tryz.underlying89, Tryz.underlying3, Tryz.underlying35]
          · have hb := beq_eq_false_iff_ne.2 h5
            simp [go_sem, hb, h5, Tryz.underlying89, Tryz.underlying3, Tryz.underlying35]
        · have hb := beq_eq_false_iff_ne.2 h4
          simp [go_sem, hb, h4, Tryz.underlying89, Tryz.underlying3, Tryz.underlying35]
      · have hb := beq_eq_false_iff_ne.2 h3
        simp [go_sem, hb, h3, Tryz.underlying89, Tryz.underlying3, Tryz.underlying35]
    · have hb := beq_eq_false_iff_ne.2 h2
      simp [go_sem, hb, h2, Tryz.underlying89, Tryz.underlying3, Tryz.underlying35]
  · have hb := beq_eq_false_iff_ne.2 h1
    simp [go_sem, hb, h1, Tryz.underlying89, Tryz.underlying3, Tryz.underlying35]
set_option maxRecDepth 100000 in
set_option maxHeartbeats 4000000 in
theorem ref16Same_any (w : World) (u v : Value) (l m : List NE) (hu : SlV w 5 eCSN u l) (hv : SlV w 5 eCSN v m) (hdl : ∀ e ∈ l, e.2.data.size ≤ maxLen) (hdm : ∀ e ∈ m, e.2.data.size ≤ maxLen) :
    Calls Tryz.prog 23 #[u, v] w fun e w' => e = .returned (.bool (sameN l m)) ∧ Below w.heap.size w w' := by
  obtain ⟨A1, c1, rfl, hc11, hc12, hsl1⟩ := hu
  obtain ⟨A2, c2, rfl, hc21, hc22, hsl2⟩ := hv
  obtain ⟨n, hn⟩ : ∃ n, l.length = n := ⟨_, rfl⟩
  obtain ⟨n2, hn2⟩ : ∃ n2, m.length = n2 := ⟨_, rfl⟩
  have hiff := sameN_iff l m
  rw [hn] at hc11 ⊢
  rw [hn2] at hc21 ⊢
  unfold maxLen at hc12 hc22
  obtain ⟨R, hR⟩ : ∃ R, sameN l m = R := ⟨_, rfl⟩
  rw [hR] at hiff ⊢
  have HI := Lib.hid hiff
  have HD := Lib.hid (And.intro hdl hdm)
  clear hiff hR hdl hdm
  have HL := Lib.hid (And.intro hn hn2); clear hn hn2
  have H1 := Lib.hid hsl1; clear hsl1
  have H2 := Lib.hid hsl2; clear hsl2
  by_cases hnn : n = n2
  · obtain rfl := hnn
    go_enter Tryz.func23, Tryz.ntmps23
    go_wp2_with fail
    go_loopw [4, 13] (fun _ iv wr => ∃ i : Nat, i ≤ n ∧ iv = .int .i64 i ∧ (∀ k (hk : k < l.length) (hk2 : k < m.length), k < i → alikeN l[k] m[k] = true) ∧ Below w.heap.size w wr) (fun _ iv _ => n - (intOf iv).toNat)
    case atStart => exact ⟨0, Nat.zero_le _, rfl, fun k _ _ h => absurd h (Nat.not_lt_zero _), Below.refl _ _⟩
    case round =>
      obtain ⟨i, hi, rfl, hall, hb⟩ := hrel
      have HA := Lib.hid hall; clear hall
      by_cases hlt : i < n
      · have hiL : i < l.length := by have := HL.out.1; omega
        have hiM : i < m.length := by have := HL.out.2; omega
        have hb' := H1.out.below hb (Nat.le_refl _)
        have hb'' := H2.out.below hb (Nat.le_refl _)
        obtain ⟨b1, off1, rfl, hbb1, hcs1⟩ := hb' (by omega)
        obtain ⟨b2, off2, rfl, hbb2, hcs2⟩ := hb'' (by omega)
        have c0 := hcs1 i hiL 0 (by omega)
        have c1' := hcs1 i hiL 1 (by omega)
        have c2' := hcs1 i hiL 2 (by omega)
        have c3' := hcs1 i hiL 3 (by omega)
        have c4 := hcs1 i hiL 4 (by omega)
        have d0 := hcs2 i hiM 0 (by omega)
        have d1 := hcs2 i hiM 1 (by omega)
        have d2 := hcs2 i hiM 2 (by omega)
        have d3 := hcs2 i hiM 3 (by omega)
        have d4 := hcs2 i hiM 4 (by omega)
        simp only [eCSN, List.getElem?_cons_succ, List.getElem?_cons_zero, Nat.add_zero] at c0 c1' c2' c3' c4 d0 d1 d2 d3 d4
        clear hcs1 hcs2 hb' hb''
        have hi1 : (i : Int) < n := by omega
        have hse := str_eq l[i].1 m[i].1
        have HT := Lib.hid (show alikeN l[i] m[i] = true → ∀ k (hk : k < l.length) (hk2 : k < m.length), k < i + 1 → alikeN l[k] m[k] = true from fun h k hk hk2 hki => by
          by_cases e : k = i
          · subst e; exact h
          · exact HA.out k hk hk2 (by omega))
        have HF := Lib.hid (show alikeN l[i] m[i] = false → R = false from fun h => by
          cases hR : R with
          | false => rfl
          | true => have := (HI.out.1 hR).2 i hiL hiM; rw [h] at this; cases this)
        have hdx := HD.out.1 _ (List.getElem_mem hiL)
        have hdy := HD.out.2 _ (List.getElem_mem hiM)
        unfold alikeN at HT HF
        obtain ⟨x, hx⟩ : ∃ x, l[i] = x := ⟨_, rfl⟩
        obtain ⟨y, hy⟩ : ∃ y, m[i] = y := ⟨_, rfl⟩
        simp only [hx] at c0 c1' c2' c3' c4 hse HT HF hdx
        simp only [hy] at d0 d1 d2 d3 d4 hse HT HF hdy
        clear hx hy
        obtain ⟨x1, xa, xb, xc, xd⟩ := x
        obtain ⟨y1, ya, yb, yc, yd⟩ := y
        simp only at c0 c1' c2' c3' c4 d0 d1 d2 d3 d4 hse
        have HPX := Lib.hid (fun mm : Held (Aft wr) => refPrint_any (HeldW mm) ⟨xa, xb, xc, xd⟩ hdx)
        have HPY := Lib.hid (fun mm : Held (Aft wr) => refPrint_any (HeldW mm) ⟨ya, yb, yc, yd⟩ hdy)
        have hne := fun W => ne_print (printN ⟨xa, xb, xc, xd⟩) (printN ⟨ya, yb, yc, yd⟩) W
        obtain ⟨sm, hsm⟩ : ∃ s, decide (printN ⟨xa, xb, xc, xd⟩ = printN ⟨ya, yb, yc, yd⟩) = s := ⟨_, rfl⟩
        simp only [hsm] at hne HT HF
        obtain ⟨PX, hPX⟩ : ∃ P, printN ⟨xa, xb, xc, xd⟩ = P := ⟨_, rfl⟩
        obtain ⟨PY, hPY⟩ : ∃ P, printN ⟨ya, yb, yc, yd⟩ = P := ⟨_, rfl⟩
        simp only [hPX] at HPX hne
        simp only [hPY] at HPY hne
        clear hPX hPY hsm hdx hdy
        obtain ⟨pa, pb, pc, pd, pe⟩ := PX
        obtain ⟨qa, qb, qc, qd, qe⟩ := PY
        simp only [Pr.c] at hne HPX HPY
        simp only [Nd.c] at HPX HPY
        have k0 : ∀ mm : Held (Aft wr), (HeldW mm).cell? ⟨b1, off1 + i * 5, none⟩ = some (.string x1) := fun mm => (Aft.cell mm hbb1).trans c0
        have k1 : ∀ mm : Held (Aft wr), (HeldW mm).cell? ⟨b1, off1 + i * 5 + 1, none⟩ = some (.int .i64 xa) := fun mm => (Aft.cell mm hbb1).trans c1'
        have k2 : ∀ mm : Held (Aft wr), (HeldW mm).cell? ⟨b1, off1 + i * 5 + 2, none⟩ = some (.int .i64 xb) := fun mm => (Aft.cell mm hbb1).trans c2'
        have k3 : ∀ mm : Held (Aft wr), (HeldW mm).cell? ⟨b1, off1 + i * 5 + 3, none⟩ = some (.int .u32 xc) := fun mm => (Aft.cell mm hbb1).trans c3'
        have k4 : ∀ mm : Held (Aft wr), (HeldW mm).cell? ⟨b1, off1 + i * 5 + 4, none⟩ = some (.string xd) := fun mm => (Aft.cell mm hbb1).trans c4
        have j0 : ∀ mm : Held (Aft wr), (HeldW mm).cell? ⟨b2, off2 + i * 5, none⟩ = some (.string y1) := fun mm => (Aft.cell mm hbb2).trans d0
        have j1 : ∀ mm : Held (Aft wr), (HeldW mm).cell? ⟨b2, off2 + i * 5 + 1, none⟩ = some (.int .i64 ya) := fun mm => (Aft.cell mm hbb2).trans d1
        have j2 : ∀ mm : Held (Aft wr), (HeldW mm).cell? ⟨b2, off2 + i * 5 + 2, none⟩ = some (.int .i64 yb) := fun mm => (Aft.cell mm hbb2).trans d2
        have j3 : ∀ mm : Held (Aft wr), (HeldW mm).cell? ⟨b2, off2 + i * 5 + 3, none⟩ = some (.int .u32 yc) := fun mm => (Aft.cell mm hbb2).trans d3
        have j4 : ∀ mm : Held (Aft wr), (HeldW mm).cell? ⟨b2, off2 + i * 5 + 4, none⟩ = some (.string yd) := fun mm => (Aft.cell mm hbb2).trans d4
        have HB := Lib.hid hb
        clear hb c0 c1' c2' c3' c4 d0 d1 d2 d3 d4
        haveI := Aft.some wr
        go_upto_region 6 with fail
        by_cases hxy : x1 = y1
        · rw [decide_eq_true hxy] at hse HT HF
          have hse2 : (x1.toList != y1.toList) = false := by rw [bne, hse]; rfl
          clear hxy
          refine wp_region_class (Aft wr) (by kernel_rfl) (by kernel_rfl) (Aft.start wr) ?_
          repeat (go_big_quiet_step (first | with_reducible exact held_below Aft.keep (HPX.out _) | with_reducible exact held_below Aft.keep (HPY.out _)))
          refine wpQuiet_nil ?_
          rintro _ ⟨nn, rfl⟩
          have HB2 := Lib.hid (HB.out.trans ((HeldW_spec nn : Below wr.heap.size wr (HeldW nn)).mono HB.out.size))
          clear k0 k1 k2 k3 k4 j0 j1 j2 j3 j4
          cases sm with
          | true =>
            go_wp2_with fail
            go_roundw
            case rel => exact ⟨i + 1, by omega, by go_num, HT.out rfl, HB2.out⟩
            case measure => simp [intOf]; omega
          | false =>
            have HR := Lib.hid (HF.out rfl)
            go_wp2_with fail
            go_ret
            exact ⟨by rw [HR.out]; rfl, HB2.out⟩
        · rw [decide_eq_false hxy] at hse HT HF
          have hse2 : (x1.toList != y1.toList) = true := by rw [bne, hse]; rfl
          have HR := Lib.hid (HF.out rfl)
          clear hxy
          refine wp_region_class (Aft wr) (by kernel_rfl) (by kernel_rfl) (Aft.start wr) ?_
          repeat (go_big_quiet_step (fail))
          refine wpQuiet_nil ?_
          rintro _ ⟨nn, rfl⟩
          have HB2 := Lib.hid (HB.out.trans ((HeldW_spec nn : Below wr.heap.size wr (HeldW nn)).mono HB.out.size))
          clear k0 k1 k2 k3 k4 j0 j1 j2 j3 j4
          go_wp2_with fail
          go_ret
          exact ⟨by rw [HR.out]; rfl, HB2.out⟩
      · obtain rfl : i = n := by omega
        have HR := Lib.hid (show R = true from HI.out.2 ⟨HL.out.1.trans HL.out.2.symm, fun k h1 h2 => HA.out k h1 h2 (by have := HL.out.1; omega)⟩)
        have HB := Lib.hid hb; clear hb
        go_wp2_with fail
        go_ret
        exact ⟨by rw [HR.out]; rfl, HB.out⟩
  · have HR := Lib.hid (show R = false by
      cases hR : R with
      | false => rfl
      | true => exact absurd (HL.out.1.symm.trans ((HI.out.1 hR).1.trans HL.out.2)) hnn)
    have hni : ((n : Int) != n2) = true := by simp; omega
    go_enter Tryz.func23, Tryz.ntmps23
    go_wp2_with fail
    go_ret
    exact ⟨by rw [HR.out]; rfl, Below.refl _ _⟩
end Go.Proofs.YtmpgmgjokliceaaGreatDoor
/- The reference's Paths of a Base and two rows of items. -/
set_option linter.unusedVariables false
set_option linter.unusedSimpArgs false
namespace Go.Proofs.YtmpgmgjokliceaaGreatDoor
open Go Go.RowKit
open Sw
/-- the paths so far -/
def PsI (w : World) (o : Value) (S : List ByteArray) (W : World) : Prop := ∃ qs, OwnS W w.heap.size o qs ∧ Rise qs ∧ (∀ q, q ∈ qs ↔ q ∈ S) ∧ qs.length ≤ S.length ∧ (qs = [] → o = .slice none 0 0)
theorem PsI.below {w : World} {o : Value} {S : List ByteArray} {A B : World} (h : PsI w o S A) (hb : Below A.heap.size A B) : PsI w o S B := by
  obtain ⟨qs, h1, h2⟩ := h
  exact ⟨qs, h1.below hb, h2⟩
/-- what Paths answers -/
def PathsAns (w' : World) (B : Nat) (S : List ByteArray) (e : Ending) : Prop := ∃ u, e = .returned u ∧ OwnS w' B u (pathsS S)
theorem PsI.ans {w : World} {o : Value} {S : List ByteArray} {W : World} (h : PsI w o S W) : PathsAns W w.heap.size S (.returned o) := by
  obtain ⟨qs, h1, h2, h3, _⟩ := h
  exact ⟨o, rfl, by rw [pathsS_eq h2 h3]; exact h1⟩
/-- one more path is put -/
theorem psI_put {w : World} {o : Value} {S : List ByteArray} {W : World} (h : PsI w o S W) (hB : w.heap.size ≤ W.heap.size) (hl : S.length ≤ 1000) (p : ByteArray) (hz : ∀ q ∈ S, q.size ≤ 90000) (hp : p.size ≤ 90000) :
    Calls Tryz.prog 43 #[o, .string p] W fun e w' => (∃ u, e = .returned u ∧ PsI w u (S ++ [p]) w') ∧ Below W.heap.size W w' := by
  obtain ⟨qs, h1, h2, h3, h4, h5⟩ := h
  refine (refPutP_any W w.heap.size o qs p h1 hB (by omega) (fun q hq => hz q ((h3 q).1 hq)) hp h5).mono ?_
  rintro e w' ⟨⟨u, rs, rfl, g1, g2⟩, hb⟩
  exact ⟨⟨u, rfl, rs, g1, g2.1 h2, fun q => by rw [g2.2.1 q, h3 q, List.mem_append, List.mem_singleton, Or.comm], by rw [List.length_append]; have := g2.2.2.1; simp only [List.length_singleton]; omega, fun h => by have := g2.2.2.2; rw [h] at this; simp at this⟩, hb⟩
set_option maxRecDepth 100000 in
set_option maxHeartbeats 8000000 in
theorem refPathsPsI_any (w : World) (u1 u2 : Value) (l1 l2 : List MkE) (h1 : SlV w 6 eCM u1 l1) (h2 : SlV w 6 eCM u2 l2) (hn1 : l1.length ≤ 100) (hn2 : l2.length ≤ 100) (hz1 : ∀ m ∈ l1 ++ l2, m.1.size ≤ 90000)
    (v1 v2 : Value) (xs ys : List NE) (g1 : SlV w 5 eCSN v1 xs) (g2 : SlV w 5 eCSN v2 ys) (hm1 : xs.length ≤ 100) (hm2 : ys.length ≤ 100) (hz2 : ∀ m ∈ xs ++ ys, m.1.size ≤ 90000) :
    Calls Tryz.prog 42 #[.agg #[u1, u2], v1, v2] w fun e w' => (∃ u, e = .returned u ∧ PsI w u ((l1 ++ l2).map Prod.fst ++ (xs ++ ys).map Prod.fst) w') ∧ Below w.heap.size w w' := by
  obtain ⟨W, hW⟩ : ∃ W, w.alloc (.cells #[u1, u2] 62) = W := ⟨_, rfl⟩
  have hb0 : Below w.heap.size w W := by rw [← hW]; exact (Below.refl _ w).alloc (Nat.le_refl _) _
  have hB0 : Blk W w.heap.size 62 #[u1, u2] := by rw [← hW]; exact Blk.new w _ _
  have HS := Lib.hid (And.intro (h1.below hb0 (Nat.le_refl _)) (h2.below hb0 (Nat.le_refl _)))
  have HI := Lib.hid (And.intro (And.intro (g1.below hb0 (Nat.le_refl _)) (g2.below hb0 (Nat.le_refl _))) (And.intro hz1 hz2))
  obtain ⟨A1, c1, rfl, hc1, hm1', _⟩ := h1
  obtain ⟨A2, c2, rfl, hc2, hm2', _⟩ := h2
  obtain ⟨A3, c3, rfl, _, _, _⟩ := g1
  obtain ⟨A4, c4, rfl, _, _, _⟩ := g2
  clear hz1 hz2
  obtain ⟨n2, hn2'⟩ : ∃ n, l2.length = n := ⟨_, rfl⟩
  obtain ⟨n1, hn1'⟩ : ∃ n, l1.length = n := ⟨_, rfl⟩
  obtain ⟨n4, hn4'⟩ : ∃ n, ys.length = n := ⟨_, rfl⟩
  obtain ⟨n3, hn3'⟩ : ∃ n, xs.length = n := ⟨_, rfl⟩
  rw [hn2'] at hB0 hW hc2 hn2 ⊢
  rw [hn1'] at hB0 hW hc1 hn1 ⊢
  rw [hn3'] at hm1 ⊢
  rw [hn4'] at hm2 ⊢
  unfold maxLen at hm1' hm2'
  have HL := Lib.hid (And.intro (And.intro hn1' hn2') (And.intro hn3' hn4'))
  rw [hn1', hn2'] at HS
  rw [hn3', hn4'] at HI
  clear hn1' hn2' hn3' hn4'
  obtain ⟨g, hg⟩ : ∃ g, w.heap.size = g := ⟨_, rfl⟩
  rw [hg] at hB0
  have HW := Lib.hid (And.intro hW (And.intro hb0 (And.intro hB0 hg))); clear hW hb0 hB0
  go_enter Tryz.func42, Tryz.ntmps42
  go_upto_region 1 with fail
  rw [HW.out.1]
  clear hg
  go_upto_region 2 with fail
  have k0 : ∀ m : Held (fun W => Blk W g 62 #[.slice A1 n1 c1, .slice A2 n2 c2]), (HeldW m).cell? ⟨g, 0, none⟩ = some (.slice A1 n1 c1) := fun m => (HeldW_spec m).cell 0
  have k1 : ∀ m : Held (fun W => Blk W g 62 #[.slice A1 n1 c1, .slice A2 n2 c2]), (HeldW m).cell? ⟨g, 1, none⟩ = some (.slice A2 n2 c2) := fun m => (HeldW_spec m).cell 1
  have HC0 := Lib.hid HW.out.2.2.1.drew
  refine wp_region_mix (fun W => Blk W g 62 #[.slice A1 n1 c1, .slice A2 n2 c2]) [(1, true), (2, true), (4, true), (5, true), (8, true), (0, false), (3, false), (6, false), (7, true)] (by kernel_rfl) (by kernel_rfl) ?_
  simp only [pickP, List.filterMap_cons, List.filterMap_nil, List.getElem?_toArray, List.getElem?_cons_succ, List.getElem?_cons_zero, Option.map_some]
  repeat (apply mix_first; apply Exists.intro; refine ⟨fun m => ?_, HC0.out, ?_⟩; · (go_big_quiet_step (fail); exact wpQuiet_nil rfl))
  refine mix_forced HC0.out ?_
  go_wp2_with fail
  show mixC _ _ _ _ _ _ _
  have hs0 := HW.out.2.1.size
  rw [HW.out.2.2.2] at hs0
  have hbE : Below W.heap.size W (W.alloc (.cells #[] 114)).drew := ((Below.refl _ W).alloc (Nat.le_refl _) _).drew
  have hoE : (W.alloc (.cells #[] 114)).drew.ownsRow W.heap.size 114 6 (.slice (some ⟨W.heap.size, 0, none⟩) 0 0) 0 [] := own_emptyB W W.heap.size _ 6 (Nat.le_refl _)
  have HE := Lib.hid (And.intro hbE (And.intro hoE (And.intro (HW.out.2.2.1.below hbE HW.out.2.2.1.lt) (And.intro (HS.out.1.below hbE (Nat.le_refl _)) (HS.out.2.below hbE (Nat.le_refl _))))))
  clear hbE hoE HC0
  generalize (W.alloc (.cells #[] 114)).drew = W1 at *
  refine mix_forced HE.out.2.2.1 ?_
  go_wp2_with (at_builtin; refine wpList_app_slv rfl _ _ 59 rfl W.heap.size 114 (.agg #[.string ⟨#[]⟩, .int .i64 0, .int .i64 0, .int .u32 0, .int .i64 0, .int .u32 0]) 6 56 Tryz.underlying59 infoMk rfl (by decide) _ 0 _ rfl HE.out.2.1 eCM eCM_len eCM_one _ l1 rfl HE.out.2.2.2.1 (by have := HL.out.1.1; omega) (by decide) HE.out.1.size ?_; intro v5 w5 ho5 hg5)
  show mixC _ _ _ _ _ _ _
  obtain ⟨A5, k5, rfl, _, _, _⟩ := SlV_of_any ho5
  have hb5 := HE.out.1.grown hg5 HE.out.1.size (fun q hq => (HE.out.2.1.lt q hq).1)
  have H5 := Lib.hid (And.intro hb5 (And.intro ho5 (And.intro (HW.out.2.2.1.below hb5 HW.out.2.2.1.lt) (HS.out.2.below hb5 (Nat.le_refl _))))); clear ho5 hg5 hb5 HE
  refine mix_forced H5.out.2.2.1 ?_
  go_wp2_with (at_builtin; refine wpList_app_slv rfl _ _ 59 rfl W.heap.size 114 (.agg #[.string ⟨#[]⟩, .int .i64 0, .int .i64 0, .int .u32 0, .int .i64 0, .int .u32 0]) 6 56 Tryz.underlying59 infoMk rfl (by decide) _ (0 + l1.length) _ rfl H5.out.2.1 eCM eCM_len eCM_one _ l2 rfl H5.out.2.2.2 (by have := HL.out.1; omega) (by decide) H5.out.1.size ?_; intro v6 w6 ho6 hg6)
  show mixC _ _ _ _ _ _ _
  have hb6 := H5.out.1.grown hg6 H5.out.1.size (fun q hq => (H5.out.2.1.lt q hq).1)
  have ho6' : w6.ownsRow W.heap.size 114 6 v6 (l1 ++ l2).length ((l1 ++ l2).flatMap eCM) := by
    rw [List.length_append, List.flatMap_append]
    rw [List.nil_append, Nat.zero_add] at ho6
    exact ho6
  have hsl6 : SlV w6 6 eCM v6 (l1 ++ l2) := SlV.of_own ho6' eCM_len (by decide)
  have hll : (l1 ++ l2).length = n1 + n2 := by rw [List.length_append, HL.out.1.1, HL.out.1.2]
  rw [hll] at ho6'
  obtain ⟨A6, k6, rfl, _, _, _⟩ := SlV_of_any ho6'
  have H6 := Lib.hid (And.intro hb6 (And.intro (HW.out.2.2.1.below hb6 HW.out.2.2.1.lt) hsl6)); clear ho6 hg6 hb6 H5 ho6' hsl6
  obtain ⟨L, hLe⟩ : ∃ L, l1 ++ l2 = L := ⟨_, rfl⟩
  rw [hLe] at hll H6 HI
  have HLE := Lib.hid hLe; clear hLe
  obtain ⟨n, hnn⟩ : ∃ n, n1 + n2 = n := ⟨_, rfl⟩
  rw [hnn] at hll
  have hn60 : n ≤ 200 := by omega
  have HN := Lib.hid hll
  rw [hnn] at H6 ⊢
  clear hll hnn
  repeat (apply mix_first; apply Exists.intro; refine ⟨fun m => ?_, H6.out.2.1, ?_⟩; · (go_big_quiet_step (fail); exact wpQuiet_nil rfl))
  refine mix_nil H6.out.2.1 ?_
  clear k0 k1
  go_wp2_with fail
  go_loopw [7, 20] (fun o iv wr => ∃ i : Nat, i ≤ n ∧ iv = .int .i64 i ∧ Below W.heap.size W wr ∧ Below w6.heap.size w6 wr ∧ PsI w o ((L.take i).map Prod.fst) wr) (fun _ iv _ => n - (intOf iv).toNat)
  case atStart => exact ⟨0, Nat.zero_le _, rfl, H6.out.1, Below.refl _ _, [], World.ownsRow_nil _ _ _ _, List.Pairwise.nil, fun q => by simp, by simp, fun _ => rfl⟩
  case round =>
    obtain ⟨i, hi, rfl, hb, hb6, hP⟩ := hrel
    have hslr := H6.out.2.2.below hb6 (Nat.le_refl _)
    have hww := Nat.le_trans HW.out.2.1.size hb.size
    by_cases hlt : i < n
    · have hiL : i < L.length := by have := HN.out; omega
      obtain ⟨A', c', hA, _, _, hso⟩ := hslr
      obtain ⟨rfl, -, rfl⟩ : A6 = A' ∧ n = L.length ∧ k6 = c' := by simpa using hA
      clear hA
      obtain ⟨b, off, rfl, hbb, hcs⟩ := hso (by omega)
      have c0 := hcs i hiL 0 (by omega)
      have c1 := hcs i hiL 1 (by omega)
      have c2 := hcs i hiL 2 (by omega)
      have c3' := hcs i hiL 3 (by omega)
      have c4 := hcs i hiL 4 (by omega)
      have c5 := hcs i hiL 5 (by omega)
      simp only [eCM, List.getElem?_cons_succ, List.getElem?_cons_zero, Nat.add_zero] at c0 c1 c2 c3' c4 c5
      clear hcs hso hbb
      have hi1 : (i : Int) < n := by omega
      have hqz := HI.out.2.1 _ (List.getElem_mem hiL)
      have hst : (L.take (i + 1)).map Prod.fst = (L.take i).map Prod.fst ++ [L[i].1] := by rw [List.take_succ_eq_append_getElem hiL, List.map_append]; rfl
      obtain ⟨⟨q, ⟨kd, md, tm, sz, sm⟩⟩, hx⟩ : ∃ x, L[i] = x := ⟨_, rfl⟩
      simp only [hx] at c0 c1 c2 c3' c4 c5 hqz hst
      clear hx
      have hba := (Below.refl wr.heap.size wr).alloc (Nat.le_refl _) (.cells #[.string q, .int .i64 kd, .int .i64 md, .int .u32 tm, .int .i64 sz, .int .u32 sm] 114)
      have HPU := Lib.hid (psI_put (hP.below hba) (by simp; omega) (by rw [List.length_map, List.length_take]; omega) q (fun x hx => by
        obtain ⟨m, hm, rfl⟩ := List.mem_map.1 hx
        exact HI.out.2.1 m (List.mem_of_mem_take hm)) hqz)
      have H1 := Lib.hid (And.intro (hb.trans (hba.mono hb.size)) (hb6.trans (hba.mono hb6.size)))
      have HST := Lib.hid hst
      clear hb hb6 hba hP hst hqz
      go_wp2_with fail
      refine HPU.out.mono ?_
      rintro e w7 ⟨⟨u, rfl, hP7⟩, hb7⟩
      rw [← HST.out] at hP7
      have H7 := Lib.hid (And.intro (H1.out.1.trans (hb7.mono H1.out.1.size)) (And.intro (H1.out.2.trans (hb7.mono H1.out.2.size)) hP7)); clear hb7 hP7 HPU H1
      go_wp2_with fail
      go_roundw
      case rel => exact ⟨i + 1, by omega, by go_num, H7.out.1, H7.out.2.1, H7.out.2.2⟩
      case measure => simp [intOf]; omega
    · obtain rfl : i = n := by omega
      have hf : L.take i = L := List.take_of_length_le (by have := HN.out; omega)
      rw [hf] at hP
      have H8 := Lib.hid (And.intro hb hP)
      have hsI1 := HI.out.1.1.below hb (Nat.le_refl _)
      have hsI2 := HI.out.1.2.below hb (Nat.le_refl _)
      have HI2 := Lib.hid (And.intro hsI1 hsI2)
      clear hf hb hb6 hP hslr hsI1 hsI2 H6
      generalize wr = w8 at *
      have hmm : n3 + ys.length = (xs ++ ys).length := by rw [List.length_append, HL.out.2.1]
      have hmf : xs.flatMap eCSN ++ ys.flatMap eCSN = (xs ++ ys).flatMap eCSN := by rw [List.flatMap_append]
      have hml : (xs ++ ys).length ≤ 200 := by rw [List.length_append, HL.out.2.1, HL.out.2.2]; omega
      obtain ⟨M, hMe⟩ : ∃ M, xs ++ ys = M := ⟨_, rfl⟩
      rw [hMe] at hmm hmf hml HI
      have HME := Lib.hid hMe; clear hMe
      obtain ⟨m, hm⟩ : ∃ m, M.length = m := ⟨_, rfl⟩
      rw [hm] at hmm hml
      have HMM := Lib.hid (And.intro hmm (And.intro hmf hm)); clear hmm hmf hm
      go_wp2_with (first | (at_builtin; refine wpList_app_slv rfl _ _ 22 rfl w8.heap.size 70 (.agg #[.string ⟨#[]⟩, .int .i64 0, .int .i64 0, .int .u32 0, .string ⟨#[]⟩]) 5 56 Tryz.underlying22 infoIt rfl (by decide) _ 0 _ rfl (own_emptyB w8 w8.heap.size _ 5 (Nat.le_refl _)) eCSN eCSN_len eCSN_one _ xs rfl (HI2.out.1.below ((Below.refl _ w8).alloc (Nat.le_refl _) _) (Nat.le_refl _)) (by have := HL.out.2.1; omega) (by decide) (by simp) ?_; intro v9 w9 ho9 hg9; rw [Nat.zero_add, List.nil_append, HL.out.2.1] at ho9; have hb9 : Below w8.heap.size w8 w9 := ((Below.refl _ w8).alloc (Nat.le_refl _) _).grown hg9 (by simp) (fun q hq => by cases hq; exact Nat.le_refl _); obtain ⟨A9, k9, rfl, _, _, _⟩ := SlV_of_any ho9; have hz9 := hb9.size; have H9 := Lib.hid (And.intro hb9 (And.intro ho9 (HI2.out.2.below hb9 (Nat.le_refl _)))); clear ho9 hg9 hb9) | (at_builtin; refine wpList_app_slv rfl _ _ 22 rfl w8.heap.size 70 (.agg #[.string ⟨#[]⟩, .int .i64 0, .int .i64 0, .int .u32 0, .string ⟨#[]⟩]) 5 56 Tryz.underlying22 infoIt rfl (by decide) (.slice A9 n3 k9) n3 _ rfl H9.out.2.1 eCSN eCSN_len eCSN_one _ ys rfl H9.out.2.2 (by have := HL.out.2; omega) (by decide) hz9 ?_; intro v10 w10 ho10 hg10; rw [HMM.out.1, HMM.out.2.1] at ho10; have hb10 := H9.out.1.grown hg10 hz9 (fun q hq => (H9.out.2.1.lt q hq).1); obtain ⟨A10, k10, rfl, _, _, _⟩ := SlV_of_any ho10; have H10 := Lib.hid (And.intro hb10 ho10); clear ho10 hg10 hb10 H9))
      have hsl10 : SlV w10 5 eCSN (.slice A10 m k10) M := SlV.of_own H10.out.2 eCSN_len (by decide)
      have hbW10 := H8.out.1.trans (H10.out.1.mono H8.out.1.size)
      have H11 := Lib.hid (And.intro hbW10 (And.intro (H8.out.2.below H10.out.1) hsl10)); clear hsl10 hbW10 H10
      go_loopw [7, 35] (fun o iv wr => ∃ j : Nat, j ≤ m ∧ iv = .int .i64 j ∧ Below W.heap.size W wr ∧ Below w10.heap.size w10 wr ∧ PsI w o (L.map Prod.fst ++ (M.take j).map Prod.fst) wr) (fun _ iv _ => m - (intOf iv).toNat)
      case atStart => exact ⟨0, Nat.zero_le _, rfl, H11.out.1, Below.refl _ _, by have := H11.out.2.1; simpa using this⟩
      case round =>
        obtain ⟨j, hj, rfl, hb, hb10, hP⟩ := hrel
        have hslr := H11.out.2.2.below hb10 (Nat.le_refl _)
        have hww2 := Nat.le_trans HW.out.2.1.size hb.size
        by_cases hlt2 : j < m
        · have hjM : j < M.length := by have := HMM.out.2.2; omega
          obtain ⟨A', c', hA, _, _, hso⟩ := hslr
          obtain ⟨rfl, -, rfl⟩ : A10 = A' ∧ m = M.length ∧ k10 = c' := by simpa using hA
          clear hA
          obtain ⟨b, off, rfl, hbb, hcs⟩ := hso (by omega)
          have c0 := hcs j hjM 0 (by omega)
          have c1 := hcs j hjM 1 (by omega)
          have c2 := hcs j hjM 2 (by omega)
          have c3' := hcs j hjM 3 (by omega)
          have c4 := hcs j hjM 4 (by omega)
          simp only [eCSN, List.getElem?_cons_succ, List.getElem?_cons_zero, Nat.add_zero] at c0 c1 c2 c3' c4
          clear hcs hso hbb
          have hj1 : (j : Int) < m := by omega
          have hqz := HI.out.2.2 _ (List.getElem_mem hjM)
          have hst : L.map Prod.fst ++ (M.take (j + 1)).map Prod.fst = L.map Prod.fst ++ (M.take j).map Prod.fst ++ [M[j].1] := by rw [List.take_succ_eq_append_getElem hjM, List.map_append, List.append_assoc]; rfl
          obtain ⟨⟨q, ⟨kd, md, tm, dt⟩⟩, hx⟩ : ∃ x, M[j] = x := ⟨_, rfl⟩
          simp only [hx] at c0 c1 c2 c3' c4 hqz hst
          clear hx
          have hba := (Below.refl wr.heap.size wr).alloc (Nat.le_refl _) (.cells #[.string q, .int .i64 kd, .int .i64 md, .int .u32 tm, .string dt] 70)
          have HPU := Lib.hid (psI_put (hP.below hba) (by simp; omega) (by rw [List.length_append, List.length_map, List.length_map, List.length_take]; have := HN.out; omega) q (fun x hx => by
            rcases List.mem_append.1 hx with hx | hx
            · obtain ⟨m, hm, rfl⟩ := List.mem_map.1 hx
              exact HI.out.2.1 m hm
            · obtain ⟨m, hm, rfl⟩ := List.mem_map.1 hx
              exact HI.out.2.2 m (List.mem_of_mem_take hm)) hqz)
          have H1 := Lib.hid (And.intro (hb.trans (hba.mono hb.size)) (hb10.trans (hba.mono hb10.size)))
          have HST := Lib.hid hst
          clear hb hb10 hba hP hst hqz
          go_wp2_with fail
          refine HPU.out.mono ?_
          rintro e w7 ⟨⟨u, rfl, hP7⟩, hb7⟩
          rw [← HST.out] at hP7
          have H7 := Lib.hid (And.intro (H1.out.1.trans (hb7.mono H1.out.1.size)) (And.intro (H1.out.2.trans (hb7.mono H1.out.2.size)) hP7)); clear hb7 hP7 HPU H1
          go_wp2_with fail
          go_roundw
          case rel => exact ⟨j + 1, by omega, by go_num, H7.out.1, H7.out.2.1, H7.out.2.2⟩
          case measure => simp [intOf]; omega
        · obtain rfl : j = m := by omega
          have hf : M.take j = M := List.take_of_length_le (by have := HMM.out.2.2; omega)
          rw [hf] at hP
          have HF := Lib.hid (And.intro hP (HW.out.2.1.trans (hb.mono HW.out.2.1.size)))
          clear hf hP hb hb10 hslr
          go_wp2_with fail
          go_ret
          exact ⟨⟨_, rfl, by rw [HLE.out, HME.out]; exact HF.out.1⟩, HF.out.2⟩
theorem refPathsP_any (w : World) (u1 u2 : Value) (l1 l2 : List MkE) (h1 : SlV w 6 eCM u1 l1) (h2 : SlV w 6 eCM u2 l2) (hn1 : l1.length ≤ 100) (hn2 : l2.length ≤ 100) (hz1 : ∀ m ∈ l1 ++ l2, m.1.size ≤ 90000)
    (v1 v2 : Value) (xs ys : List NE) (g1 : SlV w 5 eCSN v1 xs) (g2 : SlV w 5 eCSN v2 ys) (hm1 : xs.length ≤ 100) (hm2 : ys.length ≤ 100) (hz2 : ∀ m ∈ xs ++ ys, m.1.size ≤ 90000) :
    Calls Tryz.prog 42 #[.agg #[u1, u2], v1, v2] w fun e w' => PathsAns w' w.heap.size ((l1 ++ l2).map Prod.fst ++ (xs ++ ys).map Prod.fst) e ∧ Below w.heap.size w w' := by
  refine (refPathsPsI_any w u1 u2 l1 l2 h1 h2 hn1 hn2 hz1 v1 v2 xs ys g1 g2 hm1 hm2 hz2).mono ?_
  rintro e w' ⟨⟨u, rfl, h⟩, hb⟩
  exact ⟨h.ans, hb⟩
end Go.Proofs.YtmpgmgjokliceaaGreatDoor
