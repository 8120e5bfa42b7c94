/- Several texts, joined for the limit of sixty files; each one opens with its own comment. -/
import Derived.Test.YtjcbjocgachpjaaGreatDoorJoin18
import Derived.Test.YtjcbjocgachpjaaGreatDoorJoin9
import Derived.Test.YtjcbjocgachpjaaGreatDoorJoin10
/- The reference's rows of items: Set. -/
set_option linter.unusedVariables false
set_option linter.unusedSimpArgs false
namespace Go.Proofs.YtjcbjocgachpjaaGreatDoor
open Go Go.RowKit
open Sw
/-- where the reference's Set stands -/
def SetAt (w : World) (T : Nat) (n : Nd) (L : List NE) (ov : Value) (wr : World) : Prop := OwnIt wr T ov L ∧ Blk wr T 43 n.c ∧ Below T w wr
theorem SetAt.below {w wr wr' : World} {T : Nat} {n : Nd} {L : List NE} {ov : Value} (h : SetAt w T n L ov wr) (hb : Below wr.heap.size wr wr') : SetAt w T n L ov wr' :=
  ⟨h.1.below hb, h.2.1.below hb h.2.1.lt, h.2.2.trans (hb.mono (Nat.le_of_lt h.2.1.lt))⟩
theorem SetAt.app {w wr w0 w5 : World} {T g cap m : Nat} {n : Nd} {L : List NE} {ov : Value} {x : NE} (h : SetAt w T n L ov wr) (hm : L.length = m) (hb : Below wr.heap.size wr w0)
    (hown : w5.ownsRow T 45 5 (.slice (some ⟨g, 0, none⟩) (m + 1) cap) (m + 1) (L.flatMap eCSN ++ [.string x.1, .int .i64 x.2.kind, .int .i64 x.2.mode, .int .u32 x.2.time, .string x.2.data])) (hg : w0.grownBy w5 ov.ownBlock) : SetAt w T n (L ++ [x]) (.slice (some ⟨g, 0, none⟩) (m + 1) cap) w5 := by
  have h0 := h.below hb
  exact ⟨OwnIt.app hown hm, h0.2.1.grown hg (fun e => own_ne_blk h0.1 h0.2.1 (by decide) e.symm), h0.2.2.grown hg (Nat.le_of_lt h0.2.1.lt) (fun k hk => (h0.1.lt k hk).1)⟩
set_option maxRecDepth 100000 in
set_option maxHeartbeats 8000000 in
theorem ref16Set_any (w : World) (v : Value) (l : List NE) (p : ByteArray) (n : Nd) (h : SlV w 5 eCSN v l) (hl : l.length ≤ 1000) (hp : p.size ≤ 90000) (hok : ∀ e ∈ l, e.1.size ≤ 90000) :
    Calls Tryz.prog 71 #[v, .string p, .agg n.c] w fun e w' => ∃ r, e = .returned r ∧ OwnIt w' w.heap.size r (Sw.setG ordS p n l) ∧ Below w.heap.size w w' := by
  obtain ⟨A, c, rfl, hc1, hc2, hsl⟩ := h
  obtain ⟨N, hN⟩ : ∃ N, l.length = N := ⟨_, rfl⟩
  rw [hN] at hc1 hl ⊢
  unfold maxLen at hc2
  have HL := Lib.hid hN; clear hN
  have HS := Lib.hid hsl; clear hsl
  have HOK := Lib.hid hok; clear hok
  have hb0 := (Below.refl w.heap.size w).alloc (Nat.le_refl _) (.cells n.c 43)
  obtain ⟨T, hT⟩ : ∃ T, w.heap.size = T := ⟨_, rfl⟩
  have hB0 := Blk.new w 43 n.c
  rw [hT] at hb0 hB0 ⊢
  have H0 := Lib.hid (show SetAt w T n [] (.slice none 0 0) (w.alloc (.cells n.c 43)) from ⟨World.ownsRow_nil _ _ _ _, hB0, hb0⟩); clear hb0 hB0
  have HST := Lib.hid (show Sw.setG ordS p n l = (let s := l.foldl (Sw.stepG ordS p n) (false, []); if s.1 = true then s.2 else s.2 ++ [(p, n)]) from rfl)
  generalize Sw.setG ordS p n l = R at *
  obtain ⟨kd, md, tm, dt⟩ := n
  simp only [Nd.c] at H0 ⊢
  go_enter Tryz.func71, Tryz.ntmps71
  go_wp2_with fail
  go_loopw [7, 8, 13] (fun ov dv iv wr => ∃ i : Nat, i ≤ N ∧ iv = .int .i64 i ∧ dv = .bool ((l.take i).foldl (Sw.stepG ordS p (⟨kd, md, tm, dt⟩ : Nd)) (false, [])).1 ∧ SetAt w T ⟨kd, md, tm, dt⟩ ((l.take i).foldl (Sw.stepG ordS p (⟨kd, md, tm, dt⟩ : Nd)) (false, [])).2 ov wr) (fun _ _ iv _ => N - (intOf iv).toNat)
  case atStart => exact ⟨0, Nat.zero_le _, rfl, rfl, H0.out⟩
  case round =>
    obtain ⟨i, hi, rfl, rfl, hat⟩ := hrel
    obtain ⟨A3, c3, rfl, -, -, -⟩ := SlV_of_any hat.1
    have hfl := Sw.foldG_len (c := ordS) p (⟨kd, md, tm, dt⟩ : Nd) (l.take i) (false, [])
    rw [List.length_take] at hfl
    have hbw : T ≤ wr.heap.size := Nat.le_of_lt hat.2.1.lt
    by_cases hlt : i < N
    · have hiL : i < l.length := by have := HL.out; omega
      have hst := Sw.foldG_step (c := ordS) p (⟨kd, md, tm, dt⟩ : Nd) l i hiL
      obtain ⟨S, hS⟩ : ∃ S, (l.take i).foldl (Sw.stepG ordS p (⟨kd, md, tm, dt⟩ : Nd)) (false, []) = S := ⟨_, rfl⟩
      rw [hS] at hst hat hfl ⊢
      obtain ⟨d, L⟩ := S
      simp only at hat hfl hst ⊢
      obtain ⟨b, off, rfl, hbb, hcs⟩ := (HS.out.below (B := w.heap.size) (by rw [hT]; exact hat.2.2) (Nat.le_refl _)) (by omega)
      have c0 := hcs i hiL 0 (by omega)
      have c1 := hcs i hiL 1 (by omega)
      have c2 := hcs i hiL 2 (by omega)
      have c3' := hcs i hiL 3 (by omega)
      have c4 := hcs i hiL 4 (by omega)
      simp only [eCSN, List.getElem?_cons_succ, List.getElem?_cons_zero, Nat.add_zero] at c0 c1 c2 c3' c4
      clear hcs
      have hi1 : (i : Int) < N := by omega
      have hse := str_eq l[i].1 p
      have hxk := HOK.out l[i] (List.getElem_mem hiL)
      obtain ⟨x, hx⟩ : ∃ x, l[i] = x := ⟨_, rfl⟩
      rw [hx] at hse hst hxk
      simp only [hx] at c0 c1 c2 c3' c4
      obtain ⟨m, hm⟩ : ∃ m, L.length = m := ⟨_, rfl⟩
      rw [hm] at hfl
      rw [hm] at hat
      rw [hm]
      have hm2 : m ≤ 2000 := by simp at hfl; omega
      have HAT := Lib.hid hat
      have hR1 : wr.ownsRow T 45 5 (.slice A3 m c3) m (L.flatMap eCSN) := by have := hat.1; unfold OwnIt at this; rw [hm] at this; exact this
      have HR := Lib.hid hR1; clear hR1 hat
      have hB1 : Below wr.heap.size wr (wr.alloc (.cells #[.string x.1, .int .i64 x.2.kind, .int .i64 x.2.mode, .int .u32 x.2.time, .string x.2.data] 45)) := (Below.refl _ _).alloc (Nat.le_refl _) _
      have HB1 := Lib.hid hB1; clear hB1
      have HST1 := Lib.hid (And.intro hst (And.intro hS (And.intro hx hm))); clear hst hS hx hm
      have hBX : Blk (wr.alloc (.cells #[.string x.1, .int .i64 x.2.kind, .int .i64 x.2.mode, .int .u32 x.2.time, .string x.2.data] 45)) wr.heap.size 45 #[.string x.1, .int .i64 x.2.kind, .int .i64 x.2.mode, .int .u32 x.2.time, .string x.2.data] := Blk.new wr _ _
      have HBX := Lib.hid hBX; clear hBX
      cases d with
      | true =>
        by_cases hk : x.1 = p
        · rw [decide_eq_true hk] at hse
          have hse2 : (!(x.1.toList == p.toList)) = false := by rw [hse]; rfl
          have hf : Sw.stepG ordS p (⟨kd, md, tm, dt⟩ : Nd) (true, L) x = (true, L) := by unfold Sw.stepG; simp [(ordS_ord.iff x.1 p).2 hk]
          have HF := Lib.hid hf; clear hf hk
          go_wp2_with fail
          go_roundw
          case rel => exact ⟨i + 1, by omega, by go_num, by rw [HST1.out.1, HF.out], by rw [HST1.out.1, HF.out]; exact HAT.out.below HB1.out⟩
          case measure => simp [intOf]; omega
        · rw [decide_eq_false hk] at hse
          have hse2 : (!(x.1.toList == p.toList)) = true := by rw [hse]; rfl
          have hf : Sw.stepG ordS p (⟨kd, md, tm, dt⟩ : Nd) (true, L) x = (true, L ++ [x]) := by unfold Sw.stepG; simp [show ¬ ordS x.1 p = 0 from fun e => hk ((ordS_ord.iff x.1 p).1 e)]
          have HF := Lib.hid hf; clear hf hk
          go_wp2_with (at_builtin; refine wpList_app rfl _ _ 22 rfl T 45 (.agg #[.string ⟨#[]⟩, .int .i64 0, .int .i64 0, .int .u32 0, .string ⟨#[]⟩]) 5 56 Tryz.underlying22 infoIt rfl (by decide) _ m _ rfl ((HR.out.alloc _).alloc _) (wr.heap.size + 1) 1 #[.string x.1, .int .i64 x.2.kind, .int .i64 x.2.mode, .int .u32 x.2.time, .string x.2.data] 45 rfl (blk_snd _ _ _ _) rfl (by simp [Value.oneCell']) (by omega) (by decide) (by simp; omega) _ rfl ?_; intro g cap w5 hown1 hgrow1 hat9 hlt1; have HA := Lib.hid (And.intro hown1 hgrow1); clear hown1 hgrow1 hat9 hlt1)
          go_roundw
          case rel => exact ⟨i + 1, by omega, by go_num, by rw [HST1.out.1, HF.out], by rw [HST1.out.1, HF.out]; exact SetAt.app HAT.out HST1.out.2.2.2 (HB1.out.alloc HB1.out.size _) HA.out.1 HA.out.2⟩
          case measure => simp [intOf]; omega
      | false =>
        by_cases hk : x.1 = p
        · rw [decide_eq_true hk] at hse
          have hse2 : (!(x.1.toList == p.toList)) = false := by rw [hse]; rfl
          have hf : Sw.stepG ordS p (⟨kd, md, tm, dt⟩ : Nd) (false, L) x = (true, L ++ [(p, ⟨kd, md, tm, dt⟩)]) := by unfold Sw.stepG; simp [(ordS_ord.iff x.1 p).2 hk]
          have HF := Lib.hid hf; clear hf hk
          have e0 := HAT.out.2.1.cell 0
          have e1 := HAT.out.2.1.cell 1
          have e2 := HAT.out.2.1.cell 2
          have e3 := HAT.out.2.1.cell 3
          simp [Nd.c] at e0 e1 e2 e3
          have hTw := HAT.out.2.1.lt
          go_wp2_with (at_builtin; refine wpList_app rfl _ _ 22 rfl T 45 (.agg #[.string ⟨#[]⟩, .int .i64 0, .int .i64 0, .int .u32 0, .string ⟨#[]⟩]) 5 56 Tryz.underlying22 infoIt rfl (by decide) _ m _ rfl ((HR.out.alloc _).alloc _) (wr.heap.size + 1) 1 #[.string p, .int .i64 kd, .int .i64 md, .int .u32 tm, .string dt] 45 rfl (blk_snd _ _ _ _) rfl (by simp [Value.oneCell']) (by omega) (by decide) (by simp; omega) _ rfl ?_; intro g cap w5 hown1 hgrow1 hat9 hlt1; have HA := Lib.hid (And.intro hown1 hgrow1); have x0 := ((HBX.out.alloc (.cells #[.string p, .int .i64 kd, .int .i64 md, .int .u32 tm, .string dt] 45)).grown hgrow1 (fun e => absurd (HR.out.lt _ e.symm).2 (Nat.lt_irrefl _))).cell 0; simp at x0; clear hown1 hgrow1 hat9)
          go_roundw
          case rel => exact ⟨i + 1, by omega, by go_num, by rw [HST1.out.1, HF.out], by rw [HST1.out.1, HF.out]; exact SetAt.app HAT.out HST1.out.2.2.2 (HB1.out.alloc HB1.out.size _) HA.out.1 HA.out.2⟩
          case measure => simp [intOf]; omega
        · rw [decide_eq_false hk] at hse
          have hse2 : (!(x.1.toList == p.toList)) = true := by rw [hse]; rfl
          have hbf := refBefore_any (wr.alloc (.cells #[.string x.1, .int .i64 x.2.kind, .int .i64 x.2.mode, .int .u32 x.2.time, .string x.2.data] 45)) p x.1 (by omega) (by omega)
          have hz : ¬ ordS x.1 p = 0 := fun e => hk ((ordS_ord.iff x.1 p).1 e)
          have hng := ordS_neg x.1 p
          have HB := Lib.hid hbf; clear hbf
          have HK := Lib.hid (And.intro hz hng); clear hz hng hk
          by_cases hlt2 : ordS p x.1 = -1
          · have hf : Sw.stepG ordS p (⟨kd, md, tm, dt⟩ : Nd) (false, L) x = (true, L ++ [(p, ⟨kd, md, tm, dt⟩)] ++ [x]) := by
              have h1 : 0 ≤ ordS x.1 p := by have := HK.out.2; have := ordS_neg p x.1; omega
              unfold Sw.stepG; simp [HK.out.1, h1]
            have HF := Lib.hid hf; clear hf
            have hdd : decide (ordS p x.1 = -1) = true := by simpa using hlt2
            rw [hdd] at HB
            clear hdd hlt2
            go_wp2_with fail
            refine HB.out.mono ?_
            rintro _ w1 ⟨rfl, hb1⟩
            have HBX1 := Lib.hid (HBX.out.below hb1 HBX.out.lt)
            have x0 := HBX1.out.cell 0
            have x1 := HBX1.out.cell 1
            have x2 := HBX1.out.cell 2
            have x3 := HBX1.out.cell 3
            have x4 := HBX1.out.cell 4
            simp at x0 x1 x2 x3 x4
            have HB1' := Lib.hid (HB1.out.trans (hb1.mono (by simp)))
            have hs1 : T ≤ w1.heap.size := Nat.le_trans hbw HB1'.out.size
            have HR1 := Lib.hid (own_kept HR.out HB1'.out)
            have HBT := HAT.out.2.1.below HB1'.out HAT.out.2.1.lt
            have e0 := HBT.cell 0
            have e1 := HBT.cell 1
            have e2 := HBT.cell 2
            have e3 := HBT.cell 3
            simp [Nd.c] at e0 e1 e2 e3
            have hTw := HAT.out.2.1.lt
            clear hb1 HBT
            have hneX : (Value.slice A3 m c3).ownBlock ≠ some wr.heap.size := fun e => absurd (HR.out.lt _ e).2 (Nat.lt_irrefl _)
            have HNE := Lib.hid hneX; clear hneX
            go_wp2_with (first
              | (at_builtin; refine wpList_app rfl _ _ 22 rfl T 45 (.agg #[.string ⟨#[]⟩, .int .i64 0, .int .i64 0, .int .u32 0, .string ⟨#[]⟩]) 5 56 Tryz.underlying22 infoIt rfl (by decide) _ m _ rfl (HR1.out.alloc _) w1.heap.size 1 #[.string p, .int .i64 kd, .int .i64 md, .int .u32 tm, .string dt] 45 rfl (Blk.new _ _ _) rfl (by simp [Value.oneCell']) (by omega) (by decide) (by simp; omega) _ rfl ?_; intro g cap w5 hown1 hgrow1 hat9 hlt1; have HA := Lib.hid (And.intro hown1 hgrow1); have hbx5 := (HBX1.out.alloc (.cells #[.string p, .int .i64 kd, .int .i64 md, .int .u32 tm, .string dt] 45)).grown hgrow1 HNE.out.symm; have y0 := hbx5.cell 0; have y1 := hbx5.cell 1; have y2 := hbx5.cell 2; have y3 := hbx5.cell 3; have y4 := hbx5.cell 4; simp at y0 y1 y2 y3 y4; have HX5 := Lib.hid hbx5; have hs5 : w1.heap.size ≤ w5.heap.size := Nat.le_trans (by simp) hgrow1.size; clear hbx5; clear hown1 hgrow1 hat9)
              | (at_builtin; refine wpList_app rfl _ _ 22 rfl T 45 (.agg #[.string ⟨#[]⟩, .int .i64 0, .int .i64 0, .int .u32 0, .string ⟨#[]⟩]) 5 56 Tryz.underlying22 infoIt rfl (by decide) _ (m + 1) _ rfl (HA.out.1.alloc _) w5.heap.size 1 #[.string x.1, .int .i64 x.2.kind, .int .i64 x.2.mode, .int .u32 x.2.time, .string x.2.data] 45 rfl (Blk.new _ _ _) rfl (by simp [Value.oneCell']) (by omega) (by decide) (by simp; omega) _ rfl ?_; intro g6 cap6 w56 hown1 hgrow1 hat9 hlt16; have HA6 := Lib.hid (And.intro hown1 hgrow1); clear hown1 hgrow1 hat9))
            go_roundw
            case rel =>
              have h1 := SetAt.app (x := (p, ⟨kd, md, tm, dt⟩)) HAT.out HST1.out.2.2.2 (HB1'.out.alloc HB1'.out.size _) HA.out.1 HA.out.2
              refine ⟨i + 1, by omega, by go_num, by rw [HST1.out.1, HF.out], ?_⟩
              rw [HST1.out.1, HF.out]
              have h2 := HA6.out.1
              have h3 : (L ++ [(p, (⟨kd, md, tm, dt⟩ : Nd))]).flatMap eCSN = L.flatMap eCSN ++ #[.string p, .int .i64 kd, .int .i64 md, .int .u32 tm, .string dt].toList := by rw [List.flatMap_append]; rfl
              rw [← h3] at h2
              exact SetAt.app h1 (by rw [List.length_append, List.length_singleton, HST1.out.2.2.2]) ((Below.refl _ _).alloc (Nat.le_refl _) _) h2 HA6.out.2
            case measure => simp [intOf]; omega
          · have hf : Sw.stepG ordS p (⟨kd, md, tm, dt⟩ : Nd) (false, L) x = (false, L ++ [x]) := by
              have h1 : ¬ 0 ≤ ordS x.1 p := by
                have := ordS_neg x.1 p
                rcases ordS_three p x.1 with h | h | h
                all_goals first | exact absurd h hlt2 | (have := HK.out.1; omega)
              unfold Sw.stepG; simp [HK.out.1, h1]
            have HF := Lib.hid hf; clear hf
            have hdd : decide (ordS p x.1 = -1) = false := by simpa using hlt2
            rw [hdd] at HB
            clear hdd hlt2
            go_wp2_with fail
            refine HB.out.mono ?_
            rintro _ w1 ⟨rfl, hb1⟩
            have HBX1 := Lib.hid (HBX.out.below hb1 HBX.out.lt)
            have x0 := HBX1.out.cell 0
            have x1 := HBX1.out.cell 1
            have x2 := HBX1.out.cell 2
            have x3 := HBX1.out.cell 3
            have x4 := HBX1.out.cell 4
            simp at x0 x1 x2 x3 x4
            have HB1' := Lib.hid (HB1.out.trans (hb1.mono (by simp)))
            have hs1 : T ≤ w1.heap.size := Nat.le_trans hbw HB1'.out.size
            have HR1 := Lib.hid (own_kept HR.out HB1'.out)
            clear hb1
            go_wp2_with (at_builtin; refine wpList_app rfl _ _ 22 rfl T 45 (.agg #[.string ⟨#[]⟩, .int .i64 0, .int .i64 0, .int .u32 0, .string ⟨#[]⟩]) 5 56 Tryz.underlying22 infoIt rfl (by decide) _ m _ rfl (HR1.out.alloc _) w1.heap.size 1 #[.string x.1, .int .i64 x.2.kind, .int .i64 x.2.mode, .int .u32 x.2.time, .string x.2.data] 45 rfl (Blk.new _ _ _) rfl (by simp [Value.oneCell']) (by omega) (by decide) (by simp; omega) _ rfl ?_; intro g cap w5 hown1 hgrow1 hat9 hlt1; have HA := Lib.hid (And.intro hown1 hgrow1); clear hown1 hgrow1 hat9)
            go_roundw
            case rel => exact ⟨i + 1, by omega, by go_num, by rw [HST1.out.1, HF.out], by rw [HST1.out.1, HF.out]; exact SetAt.app HAT.out HST1.out.2.2.2 (HB1'.out.alloc HB1'.out.size _) HA.out.1 HA.out.2⟩
            case measure => simp [intOf]; omega
    · obtain rfl : i = N := by omega
      have htk : l.take i = l := List.take_of_length_le (by have := HL.out; omega)
      rw [htk] at hat ⊢
      clear htk
      have HST2 := HST.out
      obtain ⟨S, hS⟩ : ∃ S, l.foldl (Sw.stepG ordS p (⟨kd, md, tm, dt⟩ : Nd)) (false, []) = S := ⟨_, rfl⟩
      rw [hS] at HST2 hat ⊢
      rw [List.take_of_length_le (by have := HL.out; omega), hS] at hfl
      clear hS
      obtain ⟨d, L⟩ := S
      simp only at hat HST2 hfl ⊢
      obtain ⟨m, hm⟩ : ∃ m, L.length = m := ⟨_, rfl⟩
      rw [hm] at hfl
      rw [hm] at hat
      rw [hm]
      have hm2 : m ≤ 2000 := by simp at hfl; omega
      have HAT := Lib.hid hat
      have hR1 : wr.ownsRow T 45 5 (.slice A3 m c3) m (L.flatMap eCSN) := by have := hat.1; unfold OwnIt at this; rw [hm] at this; exact this
      have HR := Lib.hid hR1; clear hR1
      have e0 := hat.2.1.cell 0
      have e1 := hat.2.1.cell 1
      have e2 := hat.2.1.cell 2
      have e3 := hat.2.1.cell 3
      simp [Nd.c] at e0 e1 e2 e3
      have hTw := hat.2.1.lt
      have HF := Lib.hid (And.intro HST2 hm); clear HST2 hm hat
      cases d with
      | true =>
        go_wp2_with fail
        go_ret
        have h1 := HF.out.1
        rw [if_pos trivial] at h1
        rw [h1]
        exact ⟨_, rfl, by unfold OwnIt; rw [HF.out.2]; exact HR.out, HAT.out.2.2⟩
      | false =>
        go_wp2_with (at_builtin; refine wpList_app rfl _ _ 22 rfl T 45 (.agg #[.string ⟨#[]⟩, .int .i64 0, .int .i64 0, .int .u32 0, .string ⟨#[]⟩]) 5 56 Tryz.underlying22 infoIt rfl (by decide) _ m _ rfl (HR.out.alloc _) wr.heap.size 1 #[.string p, .int .i64 kd, .int .i64 md, .int .u32 tm, .string dt] 45 rfl (Blk.new _ _ _) rfl (by simp [Value.oneCell']) (by omega) (by decide) (by simp; omega) _ rfl ?_; intro g cap w5 hown1 hgrow1 hat9 hlt1; have HA := Lib.hid (And.intro hown1 hgrow1); clear hown1 hgrow1 hat9)
        go_ret
        have h1 := HF.out.1
        rw [if_neg (by simp)] at h1
        rw [h1]
        have h2 := SetAt.app (x := (p, ⟨kd, md, tm, dt⟩)) HAT.out HF.out.2 ((Below.refl _ _).alloc (Nat.le_refl _) _) HA.out.1 HA.out.2
        exact ⟨_, rfl, h2.1, h2.2.2⟩
end Go.Proofs.YtjcbjocgachpjaaGreatDoor
/- The reference's rows of items: Drop. -/
set_option linter.unusedVariables false
set_option linter.unusedSimpArgs false
namespace Go.Proofs.YtjcbjocgachpjaaGreatDoor
open Go Go.RowKit
open Sw
end Go.Proofs.YtjcbjocgachpjaaGreatDoor
/- XDosRef with names that do not clash with the name texts (made from it by sed). -/
set_option linter.unusedVariables false
namespace Go.Proofs.YtjcbjocgachpjaaGreatDoor
open Go.RowKit
open Sw
set_option maxHeartbeats 1000000 in
theorem refDosDays_any (w : World) (y m : Int) (h0 : -9223372036854775808 ≤ y) (h1 : y ≤ 9223372036854775807) :
    Calls Tryz.prog 165 #[.int .i64 y, .int .i64 m] w fun e w' => e = .returned (.int .i64 (daysI y m)) ∧ w = w' := by
  by_cases hy : y < 1980
  · have hd : daysI y m = 0 := by unfold daysI; rw [if_pos (.inl hy)]
    rw [hd]
    go_enter Tryz.func165, Tryz.ntmps165
    go_wp2_with fail
    go_ret
    exact ⟨rfl, rfl⟩
  by_cases hy2 : 2107 < y
  · have hd : daysI y m = 0 := by unfold daysI; rw [if_pos (.inr (.inl hy2))]
    rw [hd]
    go_enter Tryz.func165, Tryz.ntmps165
    go_wp2_with fail
    go_ret
    exact ⟨rfl, rfl⟩
  have HD := Lib.hid (fun (hm : ¬ (m < 1 ∨ 12 < m)) => show daysI y m = (if m = 2 then (if leapI y = true then 29 else 28) else if m = 4 ∨ m = 6 ∨ m = 9 ∨ m = 11 then 30 else 31) by
    unfold daysI
    rw [if_neg (by omega)])
  have hm : m = 1 ∨ m = 3 ∨ m = 4 ∨ m = 5 ∨ m = 6 ∨ m = 7 ∨ m = 8 ∨ m = 9 ∨ m = 10 ∨ m = 11 ∨ m = 12 ∨ m = 2 ∨ m < 1 ∨ 12 < m := by omega
  rcases hm with rfl | rfl | rfl | rfl | rfl | rfl | rfl | rfl | rfl | rfl | rfl | hm
  case inr.inr.inr.inr.inr.inr.inr.inr.inr.inr.inr =>
    rcases hm with rfl | hm
    · have e4 : (y.tmod 4 == 0) = decide (y % 4 = 0) := by
        rw [Bool.eq_iff_iff, beq_iff_eq, decide_eq_true_iff, ← Int.dvd_iff_tmod_eq_zero, ← Int.dvd_iff_emod_eq_zero]
      have hd : daysI y 2 = if leapI y = true then 29 else 28 := by
        unfold daysI
        rw [if_neg (by omega), if_pos rfl]
      unfold leapI at hd
      by_cases h4 : y % 4 = 0
      · have ht : (y.tmod 4 == 0) = true := by rw [e4]; simpa using h4
        by_cases h5 : y = 2100
        · have hn : (y != 2100) = false := by simp [h5]
          have hd' : daysI y 2 = 28 := by rw [hd]; simp [h5]
          rw [hd']
          clear hd hd' e4 h5
          go_enter Tryz.func165, Tryz.ntmps165
          go_wp2_with fail
          go_ret
          exact ⟨rfl, rfl⟩
        · have hn : (y != 2100) = true := by simp [h5]
          have hd' : daysI y 2 = 29 := by rw [hd]; simp [h5, h4]
          rw [hd']
          clear hd hd' e4
          go_enter Tryz.func165, Tryz.ntmps165
          go_wp2_with fail
          go_ret
          exact ⟨rfl, rfl⟩
      · have ht : (y.tmod 4 == 0) = false := by rw [e4]; simpa using h4
        have hd' : daysI y 2 = 28 := by rw [hd]; simp [h4]
        rw [hd']
        clear hd hd' e4
        go_enter Tryz.func165, Tryz.ntmps165
        go_wp2_with fail
        go_ret
        exact ⟨rfl, rfl⟩
    · have hd : daysI y m = 0 := by unfold daysI; rw [if_pos (.inr (.inr hm))]
      rw [hd]
      have t1 : (m == 1) = false := by rw [beq_eq_false_iff_ne]; omega
      have t2 : (m == 2) = false := by rw [beq_eq_false_iff_ne]; omega
      have t3 : (m == 3) = false := by rw [beq_eq_false_iff_ne]; omega
      have t4 : (m == 4) = false := by rw [beq_eq_false_iff_ne]; omega
      have t5 : (m == 5) = false := by rw [beq_eq_false_iff_ne]; omega
      have t6 : (m == 6) = false := by rw [beq_eq_false_iff_ne]; omega
      have t7 : (m == 7) = false := by rw [beq_eq_false_iff_ne]; omega
      have t8 : (m == 8) = false := by rw [beq_eq_false_iff_ne]; omega
      have t9 : (m == 9) = false := by rw [beq_eq_false_iff_ne]; omega
      have t10 : (m == 10) = false := by rw [beq_eq_false_iff_ne]; omega
      have t11 : (m == 11) = false := by rw [beq_eq_false_iff_ne]; omega
      have t12 : (m == 12) = false := by rw [beq_eq_false_iff_ne]; omega
      clear hd hm
      go_enter Tryz.func165, Tryz.ntmps165
      go_wp2_with fail
      go_ret
      exact ⟨rfl, rfl⟩
  all_goals
    have hd := HD.out (by omega)
    simp at hd
    rw [hd]
    clear hd HD
    go_enter Tryz.func165, Tryz.ntmps165
    go_wp2_with fail
    go_ret
    exact ⟨rfl, rfl⟩
theorem refDosSplit_any (w : World) (t : Int) (h0 : 0 ≤ t) (h1 : t < 4294967296) :
    Calls Tryz.prog 141 #[.int .u32 t] w fun e w' => e = .returned (.agg (Dt.v (splitD t))) ∧ Below w.heap.size w w' := by
  go_enter Tryz.func141, Tryz.ntmps141
  have hrow : Dt.v (splitD t) = #[Value.int IntKind.i64 (1980 + t / 32 / 64 / 32 / 32 / 16), Value.int IntKind.i64 (t / 32 / 64 / 32 / 32 % 16), Value.int IntKind.i64 (t / 32 / 64 / 32 % 32), Value.int IntKind.i64 (t / 32 / 64 % 32), Value.int IntKind.i64 (t / 32 % 64), Value.int IntKind.i64 (2 * (t % 32))] := by
    have e1 : t / 32 / 64 / 32 / 32 / 16 = t / 33554432 := by omega
    have e2 : t / 32 / 64 / 32 / 32 = t / 2097152 := by omega
    have e3 : t / 32 / 64 / 32 = t / 65536 := by omega
    have e4 : t / 32 / 64 = t / 2048 := by omega
    rw [e1, e2, e3, e4]; rfl
  rw [hrow]
  have HROW := Lib.hid hrow; clear hrow
  go_wp2_with fail
  refine bodyPost_ret (results_cell_row rfl _ _ w.heap.size 185 _ (0, 0) _ rfl ((Blk.new w _ _).alloc _) Tryz.underlying185 rfl (by kernel_rfl)) rfl ⟨rfl, ((Below.refl w.heap.size w).alloc (Nat.le_refl _) _).alloc (by simp) _⟩
set_option maxRecDepth 100000 in
set_option maxHeartbeats 40000000 in
theorem refDosRight_any (w : World) (x : Dt) (hx : Dt.In x) :
    Calls Tryz.prog 140 #[.agg (Dt.v x)] w fun e w' => e = .returned (.bool (decide x.Ok)) ∧ Below w.heap.size w w' := by
  have hT : TimeAt w w.heap.size 185 x (w.alloc (Obj.cells (Dt.v x) 185)) := ⟨Blk.new _ _ _, (Below.refl _ _).alloc (Nat.le_refl _) _⟩
  have HTD := Lib.hid (show TimeAt w w.heap.size 185 x (w.alloc (Obj.cells (Dt.v x) 185)).drew from ⟨hT.1, hT.2.drew⟩)
  have hD := fun W => refDosDays_any W x.y x.m hx.y0 hx.y1
  have hdl := daysI_le x.y x.m
  have hOk : x.Ok = (1 ≤ x.d ∧ x.d ≤ daysI x.y x.m ∧ 0 ≤ x.h ∧ x.h < 24 ∧ 0 ≤ x.mi ∧ x.mi < 60 ∧ 0 ≤ x.s ∧ x.s < 60 ∧ x.s % 2 = 0) := rfl
  generalize hdy : daysI x.y x.m = dy at *
  have HD := Lib.hid hD; clear hD
  have HOK := Lib.hid hOk; clear hOk
  have hm2 : (x.s.tmod 2 == 0) = decide (x.s % 2 = 0) := by rw [Bool.eq_iff_iff, beq_iff_eq, decide_eq_true_iff, ← Int.dvd_iff_tmod_eq_zero, ← Int.dvd_iff_emod_eq_zero]
  have HM2 := Lib.hid hm2; clear hm2
  clear hT hdy
  have q0 : ∀ n : Held (TimeAt w w.heap.size 185 x), (HeldW n).cell? ⟨w.heap.size, 0, none⟩ = some (.int .i64 x.y) := fun n => (HeldW_spec n).1.cell 0
  have q1 : ∀ n : Held (TimeAt w w.heap.size 185 x), (HeldW n).cell? ⟨w.heap.size, 1, none⟩ = some (.int .i64 x.m) := fun n => (HeldW_spec n).1.cell 1
  have q2 : ∀ n : Held (TimeAt w w.heap.size 185 x), (HeldW n).cell? ⟨w.heap.size, 2, none⟩ = some (.int .i64 x.d) := fun n => (HeldW_spec n).1.cell 2
  have q3 : ∀ n : Held (TimeAt w w.heap.size 185 x), (HeldW n).cell? ⟨w.heap.size, 3, none⟩ = some (.int .i64 x.h) := fun n => (HeldW_spec n).1.cell 3
  have q4 : ∀ n : Held (TimeAt w w.heap.size 185 x), (HeldW n).cell? ⟨w.heap.size, 4, none⟩ = some (.int .i64 x.mi) := fun n => (HeldW_spec n).1.cell 4
  have q5 : ∀ n : Held (TimeAt w w.heap.size 185 x), (HeldW n).cell? ⟨w.heap.size, 5, none⟩ = some (.int .i64 x.s) := fun n => (HeldW_spec n).1.cell 5
  haveI : Nonempty (Held (TimeAt w w.heap.size 185 x)) := held_some HTD.out
  obtain ⟨y0, y1, m0, m1, d0, d1, hh0, hh1, i0, i1, s0, s1⟩ := hx
  by_cases c0 : 1 ≤ x.d
  · skip
    by_cases c1 : x.d ≤ dy
    · skip
      by_cases c2 : 0 ≤ x.h
      · skip
        by_cases c3 : x.h ≤ 23
        · skip
          by_cases c4 : 0 ≤ x.mi
          · skip
            by_cases c5 : x.mi ≤ 59
            · skip
              by_cases c6 : 0 ≤ x.s
              · skip
                by_cases c7 : x.s ≤ 58
                · skip
                  by_cases c8 : x.s % 2 = 0
                  · skip
                    have t2 : (x.s.tmod 2 == 0) = true := by rw [HM2.out]; exact decide_eq_true c8
                    have HR := Lib.hid (show decide x.Ok = true by rw [decide_eq_true_iff, HOK.out]; omega)
                    go_enter Tryz.func140, Tryz.ntmps140
                    go_wp2_with fail
                    refine wp_region_class (TimeAt w w.heap.size 185 x) (by kernel_rfl) (by kernel_rfl) HTD.out ?_
                    repeat (go_big_quiet_step (with_reducible exact held_same (HD.out _)))
                    refine wpQuiet_nil ?_
                    rintro _ ⟨n, rfl⟩
                    go_wp2_with fail
                    go_ret
                    rw [HR.out]
                    exact ⟨by first | (simp; done) | (simp; omega), (HeldW_spec n).2⟩
                  · skip
                    have t2 : (x.s.tmod 2 == 0) = false := by rw [HM2.out]; exact decide_eq_false c8
                    have HR := Lib.hid (show decide x.Ok = false by rw [decide_eq_false_iff_not, HOK.out]; omega)
                    go_enter Tryz.func140, Tryz.ntmps140
                    go_wp2_with fail
                    refine wp_region_class (TimeAt w w.heap.size 185 x) (by kernel_rfl) (by kernel_rfl) HTD.out ?_
                    repeat (go_big_quiet_step (with_reducible exact held_same (HD.out _)))
                    refine wpQuiet_nil ?_
                    rintro _ ⟨n, rfl⟩
                    go_wp2_with fail
                    go_ret
                    rw [HR.out]
                    exact ⟨by first | (simp; done) | (simp; omega), (HeldW_spec n).2⟩
                · skip
                  have t7f : decide (x.s ≤ 58) = false := decide_eq_false c7
                  have HR := Lib.hid (show decide x.Ok = false by rw [decide_eq_false_iff_not, HOK.out]; omega)
                  go_enter Tryz.func140, Tryz.ntmps140
                  go_wp2_with fail
                  refine wp_region_class (TimeAt w w.heap.size 185 x) (by kernel_rfl) (by kernel_rfl) HTD.out ?_
                  repeat (go_big_quiet_step (with_reducible exact held_same (HD.out _)))
                  refine wpQuiet_nil ?_
                  rintro _ ⟨n, rfl⟩
                  go_wp2_with fail
                  go_ret
                  rw [HR.out]
                  exact ⟨by first | (simp; done) | (simp; omega), (HeldW_spec n).2⟩
              · skip
                have t6f : decide (0 ≤ x.s) = false := decide_eq_false c6
                have HR := Lib.hid (show decide x.Ok = false by rw [decide_eq_false_iff_not, HOK.out]; omega)
                go_enter Tryz.func140, Tryz.ntmps140
                go_wp2_with fail
                refine wp_region_class (TimeAt w w.heap.size 185 x) (by kernel_rfl) (by kernel_rfl) HTD.out ?_
                repeat (go_big_quiet_step (with_reducible exact held_same (HD.out _)))
                refine wpQuiet_nil ?_
                rintro _ ⟨n, rfl⟩
                go_wp2_with fail
                go_ret
                rw [HR.out]
                exact ⟨by first | (simp; done) | (simp; omega), (HeldW_spec n).2⟩
            · skip
              have t5f : decide (x.mi ≤ 59) = false := decide_eq_false c5
              have HR := Lib.hid (show decide x.Ok = false by rw [decide_eq_false_iff_not, HOK.out]; omega)
              go_enter Tryz.func140, Tryz.ntmps140
              go_wp2_with fail
              refine wp_region_class (TimeAt w w.heap.size 185 x) (by kernel_rfl) (by kernel_rfl) HTD.out ?_
              repeat (go_big_quiet_step (with_reducible exact held_same (HD.out _)))
              refine wpQuiet_nil ?_
              rintro _ ⟨n, rfl⟩
              go_wp2_with fail
              go_ret
              rw [HR.out]
              exact ⟨by first | (simp; done) | (simp; omega), (HeldW_spec n).2⟩
          · skip
            have t4f : decide (0 ≤ x.mi) = false := decide_eq_false c4
            have HR := Lib.hid (show decide x.Ok = false by rw [decide_eq_false_iff_not, HOK.out]; omega)
            go_enter Tryz.func140, Tryz.ntmps140
            go_wp2_with fail
            refine wp_region_class (TimeAt w w.heap.size 185 x) (by kernel_rfl) (by kernel_rfl) HTD.out ?_
            repeat (go_big_quiet_step (with_reducible exact held_same (HD.out _)))
            refine wpQuiet_nil ?_
            rintro _ ⟨n, rfl⟩
            go_wp2_with fail
            go_ret
            rw [HR.out]
            exact ⟨by first | (simp; done) | (simp; omega), (HeldW_spec n).2⟩
        · skip
          have t3f : decide (x.h ≤ 23) = false := decide_eq_false c3
          have HR := Lib.hid (show decide x.Ok = false by rw [decide_eq_false_iff_not, HOK.out]; omega)
          go_enter Tryz.func140, Tryz.ntmps140
          go_wp2_with fail
          refine wp_region_class (TimeAt w w.heap.size 185 x) (by kernel_rfl) (by kernel_rfl) HTD.out ?_
          repeat (go_big_quiet_step (with_reducible exact held_same (HD.out _)))
          refine wpQuiet_nil ?_
          rintro _ ⟨n, rfl⟩
          go_wp2_with fail
          go_ret
          rw [HR.out]
          exact ⟨by first | (simp; done) | (simp; omega), (HeldW_spec n).2⟩
      · skip
        have t2f : decide (0 ≤ x.h) = false := decide_eq_false c2
        have HR := Lib.hid (show decide x.Ok = false by rw [decide_eq_false_iff_not, HOK.out]; omega)
        go_enter Tryz.func140, Tryz.ntmps140
        go_wp2_with fail
        refine wp_region_class (TimeAt w w.heap.size 185 x) (by kernel_rfl) (by kernel_rfl) HTD.out ?_
        repeat (go_big_quiet_step (with_reducible exact held_same (HD.out _)))
        refine wpQuiet_nil ?_
        rintro _ ⟨n, rfl⟩
        go_wp2_with fail
        go_ret
        rw [HR.out]
        exact ⟨by first | (simp; done) | (simp; omega), (HeldW_spec n).2⟩
    · skip
      have t1f : decide (x.d ≤ dy) = false := decide_eq_false c1
      have HR := Lib.hid (show decide x.Ok = false by rw [decide_eq_false_iff_not, HOK.out]; omega)
      go_enter Tryz.func140, Tryz.ntmps140
      go_wp2_with fail
      refine wp_region_class (TimeAt w w.heap.size 185 x) (by kernel_rfl) (by kernel_rfl) HTD.out ?_
      repeat (go_big_quiet_step (with_reducible exact held_same (HD.out _)))
      refine wpQuiet_nil ?_
      rintro _ ⟨n, rfl⟩
      go_wp2_with fail
      go_ret
      rw [HR.out]
      exact ⟨by first | (simp; done) | (simp; omega), (HeldW_spec n).2⟩
  · skip
    have t0f : decide (1 ≤ x.d) = false := decide_eq_false c0
    have HR := Lib.hid (show decide x.Ok = false by rw [decide_eq_false_iff_not, HOK.out]; omega)
    go_enter Tryz.func140, Tryz.ntmps140
    go_wp2_with fail
    refine wp_region_class (TimeAt w w.heap.size 185 x) (by kernel_rfl) (by kernel_rfl) HTD.out ?_
    repeat (go_big_quiet_step (with_reducible exact held_same (HD.out _)))
    refine wpQuiet_nil ?_
    rintro _ ⟨n, rfl⟩
    go_wp2_with fail
    go_ret
    rw [HR.out]
    exact ⟨by first | (simp; done) | (simp; omega), (HeldW_spec n).2⟩
end Go.Proofs.YtjcbjocgachpjaaGreatDoor
/- The reference's Right of nodes (at a node that is one). -/
set_option linter.unusedVariables false
set_option linter.unusedSimpArgs false
namespace Go.Proofs.YtjcbjocgachpjaaGreatDoor
open Go Go.RowKit
open Sw
theorem refTime_any (w : World) (t : Int) (h0 : 0 ≤ t) (h1 : t < 4294967296) :
    Calls Tryz.prog 105 #[.int .u32 t] w fun e w' => e = .returned (.bool (decide (splitD t).Ok)) ∧ Below w.heap.size w w' := by
  have H1 := Lib.hid (refDosSplit_any w t h0 h1)
  have H2 := Lib.hid (fun W => refDosRight_any W (splitD t) (splitD_in t h0 h1))
  go_enter Tryz.func105, Tryz.ntmps105
  go_wp2_with fail
  refine H1.out.mono ?_
  rintro _ w1 ⟨rfl, hb1⟩
  have HB1 := Lib.hid hb1; clear hb1
  go_wp2_with fail
  refine (H2.out _).mono ?_
  rintro _ w2 ⟨rfl, hb2⟩
  have HB2 := Lib.hid (HB1.out.trans (hb2.mono HB1.out.size)); clear hb2
  go_wp2_with fail
  go_ret
  exact ⟨rfl, HB2.out⟩
set_option maxRecDepth 100000 in
set_option maxHeartbeats 4000000 in
theorem ref14Right_any (w : World) (n : Nd) (hk : ¬ n.kind = 0) (ht0 : 0 ≤ n.time) (ht1 : n.time < 4294967296) (hd : n.data.size ≤ maxLen) :
    Calls Tryz.prog 67 #[.agg n.c] w fun e w' => e = .returned (.int .i64 (nodeR n)) ∧ Below w.heap.size w w' := by
  obtain ⟨kd, md, tm, dt⟩ := n
  simp only at hk ht0 ht1 hd
  unfold maxLen at hd
  have hb0 := (Below.refl w.heap.size w).alloc (Nat.le_refl _) (.cells #[.int .i64 kd, .int .i64 md, .int .u32 tm, .string dt] 43)
  have hB0 := Blk.new w 43 #[.int .i64 kd, .int .i64 md, .int .u32 tm, .string dt]
  have H0 := Lib.hid (And.intro hb0 hB0); clear hb0 hB0
  have e0 : (kd == 0) = false := by rw [beq_eq_false_iff_ne]; exact hk
  unfold Nd.c
  have hR : nodeR ⟨kd, md, tm, dt⟩ = if ¬ kd = 1 ∧ ¬ kd = 2 then 8 else if kd = 2 ∧ (¬ dt.data.toList = [] ∨ ¬ tm = 0) then 1 else if ¬ (0 ≤ md ∧ md ≤ 511) then 12 else if kd = 1 ∧ ¬ (splitD tm).Ok then 13 else if (65000 : Int) < dt.size then 4 else 0 := by
    unfold nodeR
    simp [hk]
  rw [hR]
  clear hR
  by_cases h1 : kd = 1
  · subst h1
    rw [if_neg (by omega), if_neg (by omega)]
    have HD := Lib.hid (fun W => refTime_any W tm ht0 ht1)
    by_cases hm0 : 0 ≤ md
    · by_cases hm1 : md ≤ 511
      · rw [if_neg (fun h => h ⟨hm0, hm1⟩)]
        by_cases hk2 : (splitD tm).Ok
        · rw [decide_eq_true hk2] at HD
          rw [if_neg (fun h => h.2 hk2)]
          clear hk hk2
          by_cases hs : (65000 : Int) < dt.size
          all_goals
            first | rw [if_pos hs] | rw [if_neg hs]
            go_enter Tryz.func67, Tryz.ntmps67
            go_wp2_with fail
            refine (HD.out _).mono ?_
            rintro e w2 ⟨rfl, hb2⟩
            have x3 := (H0.out.2.below hb2 H0.out.2.lt).cell 3
            simp at x3
            have HF := Lib.hid (H0.out.1.trans (hb2.mono H0.out.1.size)); clear hb2
            go_wp2_with fail
            go_ret
            exact ⟨rfl, HF.out⟩
        · rw [decide_eq_false hk2] at HD
          rw [if_pos ⟨rfl, hk2⟩]
          clear hk hk2
          go_enter Tryz.func67, Tryz.ntmps67
          go_wp2_with fail
          refine (HD.out _).mono ?_
          rintro e w2 ⟨rfl, hb2⟩
          have HF := Lib.hid (H0.out.1.trans (hb2.mono H0.out.1.size)); clear hb2
          go_wp2_with fail
          go_ret
          exact ⟨rfl, HF.out⟩
      · rw [if_pos (fun h => hm1 h.2)]
        go_enter Tryz.func67, Tryz.ntmps67
        go_wp2_with fail
        go_ret
        exact ⟨rfl, H0.out.1⟩
    · rw [if_pos (fun h => hm0 h.1)]
      go_enter Tryz.func67, Tryz.ntmps67
      go_wp2_with fail
      go_ret
      exact ⟨rfl, H0.out.1⟩
  · have e1 : (kd == 1) = false := by rw [beq_eq_false_iff_ne]; exact h1
    by_cases h2 : kd = 2
    · subst h2
      rw [if_neg (by omega)]
      by_cases hx : dt.data.toList = []
      · by_cases hy : tm = 0
        · subst hy
          rw [if_neg (by rintro ⟨_, h⟩; rcases h with h | h <;> simp_all)]
          have hdz : dt = ⟨#[]⟩ := by cases dt with | mk d => cases d with | mk l => simp at hx; subst hx; rfl
          subst hdz
          clear hk h1 e1 hx
          by_cases hm0 : 0 ≤ md
          · by_cases hm1 : md ≤ 511
            · rw [if_neg (fun h => h ⟨hm0, hm1⟩)]
              rw [if_neg (by omega), if_neg (by decide)]
              go_enter Tryz.func67, Tryz.ntmps67
              go_wp2_with fail
              go_ret
              exact ⟨rfl, H0.out.1⟩
            · rw [if_pos (fun h => hm1 h.2)]
              go_enter Tryz.func67, Tryz.ntmps67
              go_wp2_with fail
              go_ret
              exact ⟨rfl, H0.out.1⟩
          · rw [if_pos (fun h => hm0 h.1)]
            go_enter Tryz.func67, Tryz.ntmps67
            go_wp2_with fail
            go_ret
            exact ⟨rfl, H0.out.1⟩
        · rw [if_pos ⟨rfl, .inr hy⟩]
          have hdz : dt = ⟨#[]⟩ := by cases dt with | mk d => cases d with | mk l => simp at hx; subst hx; rfl
          subst hdz
          have t0 : (tm == 0) = false := by rw [beq_eq_false_iff_ne]; exact hy
          have t1 : (tm != 0) = true := by rw [bne_iff_ne]; exact hy
          clear hk h1 e1 hx hy
          go_enter Tryz.func67, Tryz.ntmps67
          go_wp2_with fail
          go_ret
          exact ⟨rfl, H0.out.1⟩
      · rw [if_pos ⟨rfl, .inl hx⟩]
        have s0 : dt.data.toList.isEmpty = false := by cases hl : dt.data.toList with | nil => exact absurd hl hx | cons a l => rfl
        have s1 : (!dt.data.toList.isEmpty) = true := by rw [s0]; rfl
        have s2 : (dt.data.toList == []) = false := by rw [beq_eq_false_iff_ne]; exact hx
        have s3 : dt.toList.isEmpty = false := by rw [ByteArray.toList_eq]; exact s0
        clear hk h1 e1 hx
        go_enter Tryz.func67, Tryz.ntmps67
        go_wp2_with fail
        go_ret
        exact ⟨rfl, H0.out.1⟩
    · rw [if_pos ⟨h1, h2⟩]
      have e2 : (kd == 2) = false := by rw [beq_eq_false_iff_ne]; exact h2
      by_cases hn : kd < 0
      · clear hk h1 h2 e0 e1 e2
        go_enter Tryz.func67, Tryz.ntmps67
        go_wp2_with fail
        go_ret
        exact ⟨rfl, H0.out.1⟩
      · have hn2 : (2 : Int) < kd := by omega
        clear hk h1 h2 e0 e1 e2
        go_enter Tryz.func67, Tryz.ntmps67
        go_wp2_with fail
        go_ret
        exact ⟨rfl, H0.out.1⟩
end Go.Proofs.YtjcbjocgachpjaaGreatDoor
