/- Several texts, joined for the limit of sixty files; each one opens with its own comment. -/
import Derived.Test.YtmpgmgjokliceaaGreatDoorJoin16
import Derived.Test.YtmpgmgjokliceaaGreatDoorJoin34
import Derived.Test.YtmpgmgjokliceaaGreatDoorJoin35
import Derived.Test.YtmpgmgjokliceaaGreatDoorJoin28
/- Law 32's light, of any two rows of items and some paths. -/
set_option linter.unusedVariables false
set_option linter.unusedSimpArgs false
namespace Go.Proofs.YtmpgmgjokliceaaGreatDoor
open Go Go.RowKit
open Sw
theorem index_two0 (A1 A2 : Option Addr) (n1 c1 n2 c2 : Nat) (W : World) : (Instr.index 23 (.agg #[.slice A1 n1 c1, .slice A2 n2 c2]) (.int .i64 0)).run Tryz.prog W = .ok (.slice A1 n1 c1) W := by
  simp [Instr.index, run_underlying Tryz.underlying23, asIntOf, part, go_sem, Tryz.underlying22, Tryz.sizeOf22]
theorem index_two1 (A1 A2 : Option Addr) (n1 c1 n2 c2 : Nat) (W : World) : (Instr.index 23 (.agg #[.slice A1 n1 c1, .slice A2 n2 c2]) (.int .i64 1)).run Tryz.prog W = .ok (.slice A2 n2 c2) W := by
  simp [Instr.index, run_underlying Tryz.underlying23, asIntOf, part, go_sem, Tryz.underlying22, Tryz.sizeOf22]
/-- a row of items is right and small -/
def Row32 (xs : List NE) : Prop := xs.length ≤ 15 ∧ (∀ e ∈ xs, SmallE e) ∧ putsT [] xs = (0, xs)
/-- what law 32's light answers -/
def Light32 (xs ys : List NE) (gs : List ByteArray) (e : Ending) : Prop := ∃ R : Bool, e = .returned (.bool R) ∧ (R = true → Row32 xs ∧ Row32 ys ∧ (∀ g ∈ gs, g.size ≤ 100) ∧ gs.length ≤ 6)
theorem Light32.no {xs ys : List NE} {gs : List ByteArray} : Light32 xs ys gs (.returned (.bool false)) := ⟨false, rfl, fun h => (by cases h)⟩
set_option maxRecDepth 100000 in
set_option maxHeartbeats 4000000 in
theorem light32_any (w : World) (v1 v2 gv : Value) (xs ys : List NE) (gs : List ByteArray) (g1 : SlV w 5 eCSN v1 xs) (g2 : SlV w 5 eCSN v2 ys) (g3 : SlV w 1 sE gv gs) (hx : ∀ x ∈ xs, x.1.size ≤ maxLen ∧ NdIn x.2) (hy : ∀ x ∈ ys, x.1.size ≤ maxLen ∧ NdIn x.2) :
    Calls Tryz.prog 6 #[.agg #[v1, v2], gv] w fun e w' => Light32 xs ys gs e ∧ Below w.heap.size w w' := by
  obtain ⟨W, hW⟩ : ∃ W, w.alloc (.cells #[v1, v2] 23) = W := ⟨_, rfl⟩
  have hb0 : Below w.heap.size w W := by rw [← hW]; exact (Below.refl _ w).alloc (Nat.le_refl _) _
  have hB0 : Blk W w.heap.size 23 #[v1, v2] := by rw [← hW]; exact Blk.new _ _ _
  have HL1 := Lib.hid (fun W' (hb : Below w.heap.size w W') => light16_any W' v1 xs (g1.below hb (Nat.le_refl _)) (fun e he => ⟨(hx e he).1, (hx e he).2.size⟩))
  have HL2 := Lib.hid (fun W' (hb : Below w.heap.size w W') => light16_any W' v2 ys (g2.below hb (Nat.le_refl _)) (fun e he => ⟨(hy e he).1, (hy e he).2.size⟩))
  have HR1 := Lib.hid (fun W' (hb : Below w.heap.size w W') (h1 : xs.length ≤ 500) (h2 : ∀ e ∈ xs, SmallE e) => ref16Right_any W' v1 xs (g1.below hb (Nat.le_refl _)) h1 (fun x hx' => ⟨by have := (h2 x hx').1; omega, (hx x hx').2⟩))
  have HR2 := Lib.hid (fun W' (hb : Below w.heap.size w W') (h1 : ys.length ≤ 500) (h2 : ∀ e ∈ ys, SmallE e) => ref16Right_any W' v2 ys (g2.below hb (Nat.le_refl _)) h1 (fun x hx' => ⟨by have := (h2 x hx').1; omega, (hy x hx').2⟩))
  have HG3 := Lib.hid (fun W' (hb : Below w.heap.size w W') => (g3.below hb (Nat.le_refl _) : SlV W' 1 sE gv gs))
  have x0 := hB0.cell 0
  have x1 := hB0.cell 1
  simp only [List.getElem?_toArray, List.getElem?_cons_succ, List.getElem?_cons_zero] at x0 x1
  have HB := Lib.hid (And.intro hb0 hB0)
  have HW := Lib.hid hW
  obtain ⟨A1, c1, rfl, _, _, _⟩ := g1
  obtain ⟨A2, c2, rfl, _, _, _⟩ := g2
  obtain ⟨A3, c3, rfl, h3a, h3b, _⟩ := g3
  unfold maxLen at h3b
  obtain ⟨n1, hn1⟩ : ∃ n, xs.length = n := ⟨_, rfl⟩
  obtain ⟨n2, hn2⟩ : ∃ n, ys.length = n := ⟨_, rfl⟩
  obtain ⟨n3, hn3⟩ : ∃ n, gs.length = n := ⟨_, rfl⟩
  have HN := Lib.hid (And.intro hn1 (And.intro hn2 hn3))
  rw [hn1, hn2] at HW HB
  rw [hn1] at x0
  rw [hn2] at x1
  rw [hn1] at HL1 HR1
  rw [hn2] at HL2 HR2
  rw [hn3] at HG3 h3a
  rw [hn1, hn2, hn3]
  clear hb0 hB0 hW hx hy hn1 hn2 hn3
  have ix0 := fun W => index_two0 A1 A2 n1 c1 n2 c2 W
  have ix1 := fun W => index_two1 A1 A2 n1 c1 n2 c2 W
  go_enter Tryz.func6, Tryz.ntmps6
  go_upto_region 1 with fail
  rw [HW.out]
  go_wp2_with fail
  clear x0 x1
  go_loopw [4, 10] (fun _ iv wr => ∃ i : Nat, i ≤ 2 ∧ iv = .int .i64 i ∧ (1 ≤ i → Row32 xs) ∧ (2 ≤ i → Row32 ys) ∧ Below w.heap.size w wr) (fun _ iv _ => 2 - (intOf iv).toNat)
  case atStart => exact ⟨0, by omega, rfl, fun h => absurd h (by omega), fun h => absurd h (by omega), HB.out.1⟩
  case round =>
    obtain ⟨i, hi, rfl, hxr, hyr, hb⟩ := hrel
    by_cases h2 : i = 2
    · subst h2
      have HF := Lib.hid (And.intro (hxr (by omega)) (And.intro (hyr (by omega)) hb))
      clear hxr hyr hb HL1 HL2 HR1 HR2
      go_wp2_with fail
      go_loopw [4, 29] (fun _ iv wr => ∃ i : Nat, i ≤ n3 ∧ iv = .int .i64 i ∧ (∀ k (hk : k < gs.length), k < i → gs[k].size ≤ 100) ∧ Below w.heap.size w wr) (fun _ iv _ => n3 - (intOf iv).toNat)
      case atStart => exact ⟨0, Nat.zero_le _, rfl, fun k _ h => absurd h (Nat.not_lt_zero _), HF.out.2.2⟩
      case round =>
        obtain ⟨i, hi, rfl, hall, hb⟩ := hrel
        by_cases hlt : i < n3
        · have hiL : i < gs.length := by have := HN.out.2.2; omega
          obtain ⟨A', c', hA, _, _, hso⟩ := HG3.out _ hb
          rw [HN.out.2.2] at hA
          obtain ⟨rfl, rfl⟩ : A3 = A' ∧ c3 = c' := by injection hA with e1 e2 e3; exact ⟨e1, e3⟩
          clear hA
          obtain ⟨b, off, rfl, hbb, hcs⟩ := hso (by omega)
          have c0 := hcs i hiL 0 (by decide)
          simp only [sE, List.getElem?_cons_zero, Nat.add_zero, Nat.mul_one] at c0
          clear hcs hso
          have hi1 : (i : Int) < n3 := by omega
          have HT := Lib.hid (show gs[i].size ≤ 100 → ∀ k (hk : k < gs.length), k < i + 1 → gs[k].size ≤ 100 from fun h k hk hki => by
            by_cases e : k = i
            · subst e; exact h
            · exact hall k hk (by omega))
          obtain ⟨p, hp⟩ : ∃ x, gs[i] = x := ⟨_, rfl⟩
          rw [hp] at c0 HT
          have HB2 := Lib.hid hb
          clear hall hb hp
          by_cases h100 : p.size ≤ 100
          · have h101 : ¬ (100 : Int) < p.size := by omega
            have HT2 := Lib.hid (HT.out h100)
            go_wp2_with fail
            go_roundw
            case rel => exact ⟨i + 1, by omega, by go_num, HT2.out, HB2.out⟩
            case measure => simp [intOf]; omega
          · have h101 : (100 : Int) < p.size := by omega
            go_wp2_with fail
            go_ret
            exact ⟨.no, HB2.out⟩
        · obtain rfl : i = n3 := by omega
          have HG := Lib.hid (And.intro (show ∀ g ∈ gs, g.size ≤ 100 from fun g hg => by
            obtain ⟨k, hk, e⟩ := List.mem_iff_getElem.1 hg
            rw [← e]
            exact hall k hk (by have := HN.out.2.2; omega)) hb)
          clear hall hb
          by_cases h6 : i ≤ 6
          · have h61 : (i : Int) ≤ 6 := by omega
            go_wp2_with fail
            go_ret
            exact ⟨⟨true, by simp [h61], fun _ => ⟨HF.out.1, HF.out.2.1, HG.out.1, by rw [HN.out.2.2]; exact h6⟩⟩, HG.out.2⟩
          · have h61 : ¬ (i : Int) ≤ 6 := by omega
            go_wp2_with fail
            go_ret
            exact ⟨⟨false, by simp [h61], fun h => by cases h⟩, HG.out.2⟩
    · by_cases h0 : i = 0
      · subst h0
        have HF := Lib.hid hb
        clear hxr hyr hb HL2 HR2
        go_wp2_with fail
        refine (HL1.out wr HF.out).mono ?_
        rintro e w1 ⟨R1, rfl, hR1, hb1⟩
        have H1 := Lib.hid (And.intro (HF.out.trans (hb1.mono HF.out.size)) hR1)
        clear hb1 hR1
        cases R1 with
        | false =>
          go_wp2_with fail
          go_ret
          exact ⟨.no, H1.out.1⟩
        | true =>
          have HK := Lib.hid (H1.out.2 (by first | rfl | trivial))
          go_wp2_with fail
          refine (HR1.out w1 H1.out.1 (by have := HK.out.1; omega) HK.out.2).mono ?_
          rintro e w2 ⟨R2, rfl, hR2, hb2⟩
          have H2 := Lib.hid (And.intro (H1.out.1.trans (hb2.mono H1.out.1.size)) hR2)
          clear hb2 hR2
          cases R2 with
          | false =>
            go_wp2_with fail
            go_ret
            exact ⟨.no, H2.out.1⟩
          | true =>
            by_cases h15 : n1 ≤ 15
            · have h16 : ¬ (15 : Int) < n1 := by omega
              have HR := Lib.hid (show Row32 xs from ⟨by rw [HN.out.1]; exact h15, HK.out.2, H2.out.2.1 (by first | rfl | trivial)⟩)
              go_wp2_with fail
              go_roundw
              case rel => exact ⟨1, by omega, by go_num, fun _ => HR.out, fun h => absurd h (by omega), H2.out.1⟩
              case measure => simp [intOf]
            · have h16 : (15 : Int) < n1 := by omega
              go_wp2_with fail
              go_ret
              exact ⟨.no, H2.out.1⟩
      · obtain rfl : i = 1 := by omega
        have HF := Lib.hid (And.intro hb (hxr (by omega)))
        clear hxr hyr hb HL1 HR1
        go_wp2_with fail
        refine (HL2.out wr HF.out.1).mono ?_
        rintro e w1 ⟨R1, rfl, hR1, hb1⟩
        have H1 := Lib.hid (And.intro (HF.out.1.trans (hb1.mono HF.out.1.size)) hR1)
        clear hb1 hR1
        cases R1 with
        | false =>
          go_wp2_with fail
          go_ret
          exact ⟨.no, H1.out.1⟩
        | true =>
          have HK := Lib.hid (H1.out.2 (by first | rfl | trivial))
          go_wp2_with fail
          refine (HR2.out w1 H1.out.1 (by have := HK.out.1; omega) HK.out.2).mono ?_
          rintro e w2 ⟨R2, rfl, hR2, hb2⟩
          have H2 := Lib.hid (And.intro (H1.out.1.trans (hb2.mono H1.out.1.size)) hR2)
          clear hb2 hR2
          cases R2 with
          | false =>
            go_wp2_with fail
            go_ret
            exact ⟨.no, H2.out.1⟩
          | true =>
            by_cases h15 : n2 ≤ 15
            · have h16 : ¬ (15 : Int) < n2 := by omega
              have HR := Lib.hid (show Row32 ys from ⟨by rw [HN.out.2.1]; exact h15, HK.out.2, H2.out.2.1 (by first | rfl | trivial)⟩)
              go_wp2_with fail
              go_roundw
              case rel => exact ⟨2, by omega, by go_num, fun _ => HF.out.2, fun _ => HR.out, H2.out.1⟩
              case measure => simp [intOf]
            · have h16 : (15 : Int) < n2 := by omega
              go_wp2_with fail
              go_ret
              exact ⟨.no, H2.out.1⟩
end Go.Proofs.YtmpgmgjokliceaaGreatDoor
/- The document's example of layer 32. -/
set_option linter.unusedVariables false
set_option linter.unusedSimpArgs false
namespace Go.Proofs.YtmpgmgjokliceaaGreatDoor
open Go Go.RowKit
open Sw
theorem slv_two {w : World} {g : Nat} {te : TypeId} {α : Type} {E : α → List Value} {size : Nat} (hE : ∀ x, (E x).length = size) (x y : α) (h : Blk w g te (E x ++ E y).toArray) : SlV w size E (.slice (some ⟨g, 0, none⟩) 2 2) [x, y] :=
  ⟨some ⟨g, 0, none⟩, 2, rfl, by simp, by unfold maxLen; omega, fun _ => ⟨g, 0, rfl, h.lt, fun i hi j hj => by
    have hx := hE x
    have hi2 : i = 0 ∨ i = 1 := by simp at hi; omega
    rcases hi2 with rfl | rfl
    · rw [h.cell, List.getElem?_toArray, List.getElem?_append_left (by omega)]
      simp
    · rw [h.cell, List.getElem?_toArray, List.getElem?_append_right (by omega), hx]
      simp⟩⟩
def dirX : Nd := ⟨2, 0, 0, ⟨#[]⟩⟩
def liveX : List NE := [((⟨#[97]⟩ : ByteArray), dirX), ((⟨#[97, 47, 98]⟩ : ByteArray), dirX)]
theorem plan_lives : (planN liveX [] []).map (fun s => (s.path, s.graft)) = [((⟨#[97, 47, 98]⟩ : ByteArray), false), ((⟨#[97]⟩ : ByteArray), false)] := by decide +kernel
theorem puts_lives32 : putsT [] liveX = (0, liveX) := by kernel_rfl
set_option maxRecDepth 100000 in
set_option maxHeartbeats 4000000 in
theorem lives32_any (w : World) : Calls Tryz.prog 7 #[] w fun e w' => e = .returned (.bool true) ∧ Below w.heap.size w w' := by
  have hnd : NdIn dirX := by constructor <;> decide
  have hti := ti_of_puts (by rw [puts_lives32] : (putsT [] liveX).2 = liveX)
  have h1 : ∀ e ∈ liveX, e.1.size ≤ 90000 ∧ NdIn e.2 := fun e he => by
    simp only [liveX, List.mem_cons, List.not_mem_nil, or_false] at he
    rcases he with rfl | rfl
    · exact ⟨by show 1 ≤ 90000; omega, hnd⟩
    · exact ⟨by show 3 ≤ 90000; omega, hnd⟩
  have hd : ∀ e ∈ liveX, e.2.data.size ≤ maxLen := fun e he => (h1 e he).2.size
  have HT1 := Lib.hid (fun W g (h : Blk W g 70 #[.string ⟨#[97]⟩, .int .i64 2, .int .i64 0, .int .u32 0, .string ⟨#[]⟩, .string ⟨#[97, 47, 98]⟩, .int .i64 2, .int .i64 0, .int .u32 0, .string ⟨#[]⟩]) => treeOf_any W (.slice (some ⟨g, 0, none⟩) 2 2) liveX (slv_two (E := eCSN) (te := 70) eCSN_len _ _ h) (by decide) h1 hti)
  have HO := Lib.hid (fun W b1 m1 b2 m2 (k1 : TreeAt W b1 m1 liveX) (k2 : TreeAt W b2 m2 []) => planOf_any W b1 m1 b2 m2 (.slice none 0 0) [] liveX [] k1 k2 ⟨none, 0, rfl, Nat.le_refl _, by simp [maxLen], SlOf.nil _ _ _ _⟩ (by decide) (by simp) (by simp) (fun e he => (h1 e he).1) (by simp) (by simp) hd (by simp))
  have HLN : liveX.length = 2 := rfl
  simp only [HLN] at HT1
  clear hnd hti h1 hd HLN
  obtain ⟨g, hg⟩ : ∃ n, w.heap.size = n := ⟨_, rfl⟩
  obtain ⟨W1, hW1⟩ : ∃ W, (w.alloc (.cells #[.int .i64 2, .int .i64 0, .int .u32 0, .string ⟨#[]⟩] 37)).alloc (.cells #[.string ⟨#[97]⟩, .int .i64 2, .int .i64 0, .int .u32 0, .string ⟨#[]⟩, .string ⟨#[97, 47, 98]⟩, .int .i64 2, .int .i64 0, .int .u32 0, .string ⟨#[]⟩] 70) = W := ⟨_, rfl⟩
  have hb1 : Below w.heap.size w W1 := by rw [← hW1]; exact ((Below.refl _ w).alloc (Nat.le_refl _) _).alloc (by simp) _
  have e2 : Blk W1 (w.heap.size + 1) 70 #[.string ⟨#[97]⟩, .int .i64 2, .int .i64 0, .int .u32 0, .string ⟨#[]⟩, .string ⟨#[97, 47, 98]⟩, .int .i64 2, .int .i64 0, .int .u32 0, .string ⟨#[]⟩] := by rw [← hW1]; exact blk_snd _ _ _ _
  rw [hg] at e2
  have HW1 := Lib.hid (And.intro hb1 e2)
  clear hb1 e2
  go_enter Tryz.func7, Tryz.ntmps7
  go_wp2_with fail
  refine (HT1.out W1 _ HW1.out.2).mono ?_
  rintro e w1 ⟨bt, bm, rfl, hT, -, -, hb⟩
  have H1 := Lib.hid (And.intro (HW1.out.1.trans (hb.mono HW1.out.1.size)) hT)
  clear hb hT hW1 HT1
  go_wp2_with fail
  refine (treeNew_any w1).mono ?_
  rintro e w3 ⟨bt2, bm2, rfl, hT2, -, -, hb3⟩
  have H3 := Lib.hid (And.intro (H1.out.1.trans (hb3.mono H1.out.1.size)) (And.intro (H1.out.2.below hb3) hT2))
  clear hT2 hb3
  go_wp2_with fail
  refine (HO.out w3 bt bm bt2 bm2 H3.out.2.1 H3.out.2.2).mono ?_
  rintro e w4 ⟨u, l, rfl, ho, hl, hit, hb4⟩
  have hpl := plan_lives
  rw [show ([] : List ByteArray) = topsN [] from rfl, ← hl] at hpl
  have hlen : l.length = 2 := by have := congrArg List.length hpl; simpa using this
  obtain ⟨s1, v1, s2, v2, rfl⟩ : ∃ s1 v1 s2 v2, l = [(s1, v1), (s2, v2)] := by
    cases l with
    | nil => simp at hlen
    | cons a l =>
      cases l with
      | nil => simp at hlen
      | cons b l =>
        cases l with
        | nil => exact ⟨_, _, _, _, rfl⟩
        | cons c l => simp at hlen
  simp at hpl
  obtain ⟨⟨p1, q1⟩, p2, q2⟩ := hpl
  have H4 := Lib.hid (H3.out.1.trans (hb4.mono H3.out.1.size))
  have hls : ∀ s ∈ [(s1, v1), (s2, v2)], s.1.items.length ≤ 1000 := fun s hs => by
    have h9 : s.1 ∈ planN liveX [] (topsN []) := by rw [← hl]; exact List.mem_map.2 ⟨s, hs, rfl⟩
    have : ∀ t ∈ planN liveX [] (topsN []), t.items.length ≤ 1000 := by decide +kernel
    exact this _ h9
  have HST := Lib.hid (planSteps_any w4 u [(s1, v1), (s2, v2)] (SlV.of_own ho eSt_len (by decide)) (by simp) hls (fun s hs => by obtain ⟨A, c, e, _⟩ := hit s hs; exact ⟨A, c, e⟩))
  have hsn : stepsN ([(s1, v1), (s2, v2)].map Prod.fst) = 2 := by simp [stepsN, q1, q2]
  rw [hsn] at HST
  obtain ⟨A, c, rfl, _, _, hL⟩ := (SlV.of_own ho eSt_len (by decide) : SlV w4 7 eSt u [(s1, v1), (s2, v2)])
  obtain ⟨gm, om, rfl, hgl, hcs⟩ := hL (by simp)
  have k0 := hcs 0 (by simp) 0 (by omega)
  have k1 := hcs 1 (by simp) 0 (by omega)
  simp only [eSt, List.getElem_cons_zero, List.getElem_cons_succ, List.getElem?_cons_zero, Nat.zero_mul, Nat.one_mul, Nat.add_zero, p1, p2] at k0 k1
  simp only [List.length_cons, List.length_nil, Nat.zero_add] at HST ⊢
  clear ho hL hcs hb4 hit hl hls hsn p1 p2 q1 q2 HO
  go_wp2_with fail
  refine HST.out.mono ?_
  rintro e w5 ⟨rfl, hb5⟩
  have H5 := Lib.hid (H4.out.trans (hb5.mono H4.out.size))
  clear hb5 k0 k1
  go_wp2_with fail
  go_ret
  exact ⟨rfl, H5.out⟩
end Go.Proofs.YtmpgmgjokliceaaGreatDoor
