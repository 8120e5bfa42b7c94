/- Several texts, joined for the limit of sixty files; each one opens with its own comment. -/
import Derived.Test.YtmpgmgjokliceaaGreatDoorJoin18
/- The reference's rows of items: Set. -/
set_option linter.unusedVariables false
set_option linter.unusedSimpArgs false
namespace Go.Proofs.YtmpgmgjokliceaaGreatDoor
open Go Go.RowKit
open Sw
/-- where the reference's Set stands -/
def SetAt (w : World) (T : Nat) (n : Nd) (L : List NE) (ov : Value) (wr : World) : Prop := OwnIt wr T ov L ∧ Blk wr T 37 n.c ∧ Below T w wr
theorem SetAt.below {w wr wr' : World} {T : Nat} {n : Nd} {L : List NE} {ov : Value} (h : SetAt w T n L ov wr) (hb : Below wr.heap.size wr wr') : SetAt w T n L ov wr' :=
  ⟨h.1.below hb, h.2.1.below hb h.2.1.lt, h.2.2.trans (hb.mono (Nat.le_of_lt h.2.1.lt))⟩
theorem SetAt.app {w wr w0 w5 : World} {T g cap m : Nat} {n : Nd} {L : List NE} {ov : Value} {x : NE} (h : SetAt w T n L ov wr) (hm : L.length = m) (hb : Below wr.heap.size wr w0)
    (hown : w5.ownsRow T 70 5 (.slice (some ⟨g, 0, none⟩) (m + 1) cap) (m + 1) (L.flatMap eCSN ++ [.string x.1, .int .i64 x.2.kind, .int .i64 x.2.mode, .int .u32 x.2.time, .string x.2.data])) (hg : w0.grownBy w5 ov.ownBlock) : SetAt w T n (L ++ [x]) (.slice (some ⟨g, 0, none⟩) (m + 1) cap) w5 := by
  have h0 := h.below hb
  exact ⟨OwnIt.app hown hm, h0.2.1.grown hg (fun e => own_ne_blk h0.1 h0.2.1 (by decide) e.symm), h0.2.2.grown hg (Nat.le_of_lt h0.2.1.lt) (fun k hk => (h0.1.lt k hk).1)⟩
set_option maxRecDepth 100000 in
set_option maxHeartbeats 8000000 in
theorem ref16Set_any (w : World) (v : Value) (l : List NE) (p : ByteArray) (n : Nd) (h : SlV w 5 eCSN v l) (hl : l.length ≤ 1000) (hp : p.size ≤ 90000) (hok : ∀ e ∈ l, e.1.size ≤ 90000) :
    Calls Tryz.prog 168 #[v, .string p, .agg n.c] w fun e w' => ∃ r, e = .returned r ∧ OwnIt w' w.heap.size r (Sw.setG ordS p n l) ∧ Below w.heap.size w w' := by
  obtain ⟨A, c, rfl, hc1, hc2, hsl⟩ := h
  obtain ⟨N, hN⟩ : ∃ N, l.length = N := ⟨_, rfl⟩
  rw [hN] at hc1 hl ⊢
  unfold maxLen at hc2
  have HL := Lib.hid hN; clear hN
  have HS := Lib.hid hsl; clear hsl
  have HOK := Lib.hid hok; clear hok
  have hb0 := (Below.refl w.heap.size w).alloc (Nat.le_refl _) (.cells n.c 37)
  obtain ⟨T, hT⟩ : ∃ T, w.heap.size = T := ⟨_, rfl⟩
  have hB0 := Blk.new w 37 n.c
  rw [hT] at hb0 hB0 ⊢
  have H0 := Lib.hid (show SetAt w T n [] (.slice none 0 0) (w.alloc (.cells n.c 37)) from ⟨World.ownsRow_nil _ _ _ _, hB0, hb0⟩); clear hb0 hB0
  have HST := Lib.hid (show Sw.setG ordS p n l = (let s := l.foldl (Sw.stepG ordS p n) (false, []); if s.1 = true then s.2 else s.2 ++ [(p, n)]) from rfl)
  generalize Sw.setG ordS p n l = R at *
  obtain ⟨kd, md, tm, dt⟩ := n
  simp only [Nd.c] at H0 ⊢
  go_enter Tryz.func168, Tryz.ntmps168
  go_wp2_with fail
  go_loopw [7, 8, 13] (fun ov dv iv wr => ∃ i : Nat, i ≤ N ∧ iv = .int .i64 i ∧ dv = .bool ((l.take i).foldl (Sw.stepG ordS p (⟨kd, md, tm, dt⟩ : Nd)) (false, [])).1 ∧ SetAt w T ⟨kd, md, tm, dt⟩ ((l.take i).foldl (Sw.stepG ordS p (⟨kd, md, tm, dt⟩ : Nd)) (false, [])).2 ov wr) (fun _ _ iv _ => N - (intOf iv).toNat)
  case atStart => exact ⟨0, Nat.zero_le _, rfl, rfl, H0.out⟩
  case round =>
    obtain ⟨i, hi, rfl, rfl, hat⟩ := hrel
    obtain ⟨A3, c3, rfl, -, -, -⟩ := SlV_of_any hat.1
    have hfl := Sw.foldG_len (c := ordS) p (⟨kd, md, tm, dt⟩ : Nd) (l.take i) (false, [])
    rw [List.length_take] at hfl
    have hbw : T ≤ wr.heap.size := Nat.le_of_lt hat.2.1.lt
    by_cases hlt : i < N
    · have hiL : i < l.length := by have := HL.out; omega
      have hst := Sw.foldG_step (c := ordS) p (⟨kd, md, tm, dt⟩ : Nd) l i hiL
      obtain ⟨S, hS⟩ : ∃ S, (l.take i).foldl (Sw.stepG ordS p (⟨kd, md, tm, dt⟩ : Nd)) (false, []) = S := ⟨_, rfl⟩
      rw [hS] at hst hat hfl ⊢
      obtain ⟨d, L⟩ := S
      simp only at hat hfl hst ⊢
      obtain ⟨b, off, rfl, hbb, hcs⟩ := (HS.out.below (B := w.heap.size) (by rw [hT]; exact hat.2.2) (Nat.le_refl _)) (by omega)
      have c0 := hcs i hiL 0 (by omega)
      have c1 := hcs i hiL 1 (by omega)
      have c2 := hcs i hiL 2 (by omega)
      have c3' := hcs i hiL 3 (by omega)
      have c4 := hcs i hiL 4 (by omega)
      simp only [eCSN, List.getElem?_cons_succ, List.getElem?_cons_zero, Nat.add_zero] at c0 c1 c2 c3' c4
      clear hcs
      have hi1 : (i : Int) < N := by omega
      have hse := str_eq l[i].1 p
      have hxk := HOK.out l[i] (List.getElem_mem hiL)
      obtain ⟨x, hx⟩ : ∃ x, l[i] = x := ⟨_, rfl⟩
      rw [hx] at hse hst hxk
      simp only [hx] at c0 c1 c2 c3' c4
      obtain ⟨m, hm⟩ : ∃ m, L.length = m := ⟨_, rfl⟩
      rw [hm] at hfl
      rw [hm] at hat
      rw [hm]
      have hm2 : m ≤ 2000 := by simp at hfl; omega
      have HAT := Lib.hid hat
      have hR1 : wr.ownsRow T 70 5 (.slice A3 m c3) m (L.flatMap eCSN) := by have := hat.1; unfold OwnIt at this; rw [hm] at this; exact this
      have HR := Lib.hid hR1; clear hR1 hat
      have hB1 : Below wr.heap.size wr (wr.alloc (.cells #[.string x.1, .int .i64 x.2.kind, .int .i64 x.2.mode, .int .u32 x.2.time, .string x.2.data] 70)) := (Below.refl _ _).alloc (Nat.le_refl _) _
      have HB1 := Lib.hid hB1; clear hB1
      have HST1 := Lib.hid (And.intro hst (And.intro hS (And.intro hx hm))); clear hst hS hx hm
      have hBX : Blk (wr.alloc (.cells #[.string x.1, .int .i64 x.2.kind, .int .i64 x.2.mode, .int .u32 x.2.time, .string x.2.data] 70)) wr.heap.size 70 #[.string x.1, .int .i64 x.2.kind, .int .i64 x.2.mode, .int .u32 x.2.time, .string x.2.data] := Blk.new wr _ _
      have HBX := Lib.hid hBX; clear hBX
      cases d with
      | true =>
        by_cases hk : x.1 = p
        · rw [decide_eq_true hk] at hse
          have hse2 : (!(x.1.toList == p.toList)) = false := by rw [hse]; rfl
          have hf : Sw.stepG ordS p (⟨kd, md, tm, dt⟩ : Nd) (true, L) x = (true, L) := by unfold Sw.stepG; simp [(ordS_ord.iff x.1 p).2 hk]
          have HF := Lib.hid hf; clear hf hk
          go_wp2_with fail
          go_roundw
          case rel => exact ⟨i + 1, by omega, by go_num, by rw [HST1.out.1, HF.out], by rw [HST1.out.1, HF.out]; exact HAT.out.below HB1.out⟩
          case measure => simp [intOf]; omega
        · rw [decide_eq_false hk] at hse
          have hse2 : (!(x.1.toList == p.toList)) = true := by rw [hse]; rfl
          have hf : Sw.stepG ordS p (⟨kd, md, tm, dt⟩ : Nd) (true, L) x = (true, L ++ [x]) := by unfold Sw.stepG; simp [show ¬ ordS x.1 p = 0 from fun e => hk ((ordS_ord.iff x.1 p).1 e)]
          have HF := Lib.hid hf; clear hf hk
          go_wp2_with (at_builtin; refine wpList_app rfl _ _ 22 rfl T 70 (.agg #[.string ⟨#[]⟩, .int .i64 0, .int .i64 0, .int .u32 0, .string ⟨#[]⟩]) 5 56 Tryz.underlying22 infoIt rfl (by decide) _ m _ rfl ((HR.out.alloc _).alloc _) (wr.heap.size + 1) 1 #[.string x.1, .int .i64 x.2.kind, .int .i64 x.2.mode, .int .u32 x.2.time, .string x.2.data] 70 rfl (blk_snd _ _ _ _) rfl (by simp [Value.oneCell']) (by omega) (by decide) (by simp; omega) _ rfl ?_; intro g cap w5 hown1 hgrow1 hat9 hlt1; have HA := Lib.hid (And.intro hown1 hgrow1); clear hown1 hgrow1 hat9 hlt1)
          go_roundw
          case rel => exact ⟨i + 1, by omega, by go_num, by rw [HST1.out.1, HF.out], by rw [HST1.out.1, HF.out]; exact SetAt.app HAT.out HST1.out.2.2.2 (HB1.out.alloc HB1.out.size _) HA.out.1 HA.out.2⟩
          case measure => simp [intOf]; omega
      | false =>
        by_cases hk : x.1 = p
        · rw [decide_eq_true hk] at hse
          have hse2 : (!(x.1.toList == p.toList)) = false := by rw [hse]; rfl
          have hf : Sw.stepG ordS p (⟨kd, md, tm, dt⟩ : Nd) (false, L) x = (true, L ++ [(p, ⟨kd, md, tm, dt⟩)]) := by unfold Sw.stepG; simp [(ordS_ord.iff x.1 p).2 hk]
          have HF := Lib.hid hf; clear hf hk
          have e0 := HAT.out.2.1.cell 0
          have e1 := HAT.out.2.1.cell 1
          have e2 := HAT.out.2.1.cell 2
          have e3 := HAT.out.2.1.cell 3
          simp [Nd.c] at e0 e1 e2 e3
          have hTw := HAT.out.2.1.lt
          go_wp2_with (at_builtin; refine wpList_app rfl _ _ 22 rfl T 70 (.agg #[.string ⟨#[]⟩, .int .i64 0, .int .i64 0, .int .u32 0, .string ⟨#[]⟩]) 5 56 Tryz.underlying22 infoIt rfl (by decide) _ m _ rfl ((HR.out.alloc _).alloc _) (wr.heap.size + 1) 1 #[.string p, .int .i64 kd, .int .i64 md, .int .u32 tm, .string dt] 70 rfl (blk_snd _ _ _ _) rfl (by simp [Value.oneCell']) (by omega) (by decide) (by simp; omega) _ rfl ?_; intro g cap w5 hown1 hgrow1 hat9 hlt1; have HA := Lib.hid (And.intro hown1 hgrow1); have x0 := ((HBX.out.alloc (.cells #[.string p, .int .i64 kd, .int .i64 md, .int .u32 tm, .string dt] 70)).grown hgrow1 (fun e => absurd (HR.out.lt _ e.symm).2 (Nat.lt_irrefl _))).cell 0; simp at x0; clear hown1 hgrow1 hat9)
          go_roundw
          case rel => exact ⟨i + 1, by omega, by go_num, by rw [HST1.out.1, HF.out], by rw [HST1.out.1, HF.out]; exact SetAt.app HAT.out HST1.out.2.2.2 (HB1.out.alloc HB1.out.size _) HA.out.1 HA.out.2⟩
          case measure => simp [intOf]; omega
        · rw [decide_eq_false hk] at hse
          have hse2 : (!(x.1.toList == p.toList)) = true := by rw [hse]; rfl
          have hbf := refBefore_any (wr.alloc (.cells #[.string x.1, .int .i64 x.2.kind, .int .i64 x.2.mode, .int .u32 x.2.time, .string x.2.data] 70)) p x.1 (by omega) (by omega)
          have hz : ¬ ordS x.1 p = 0 := fun e => hk ((ordS_ord.iff x.1 p).1 e)
          have hng := ordS_neg x.1 p
          have HB := Lib.hid hbf; clear hbf
          have HK := Lib.hid (And.intro hz hng); clear hz hng hk
          by_cases hlt2 : ordS p x.1 = -1
          · have hf : Sw.stepG ordS p (⟨kd, md, tm, dt⟩ : Nd) (false, L) x = (true, L ++ [(p, ⟨kd, md, tm, dt⟩)] ++ [x]) := by
              have h1 : 0 ≤ ordS x.1 p := by have := HK.out.2; have := ordS_neg p x.1; omega
              unfold Sw.stepG; simp [HK.out.1, h1]
            have HF := Lib.hid hf; clear hf
            have hdd : decide (ordS p x.1 = -1) = true := by simpa using hlt2
            rw [hdd] at HB
            clear hdd hlt2
            go_wp2_with fail
            refine HB.out.mono ?_
            rintro _ w1 ⟨rfl, hb1⟩
            have HBX1 := Lib.hid (HBX.out.below hb1 HBX.out.lt)
            have x0 := HBX1.out.cell 0
            have x1 := HBX1.out.cell 1
            have x2 := HBX1.out.cell 2
            have x3 := HBX1.out.cell 3
            have x4 := HBX1.out.cell 4
            simp at x0 x1 x2 x3 x4
            have HB1' := Lib.hid (HB1.out.trans (hb1.mono (by simp)))
            have hs1 : T ≤ w1.heap.size := Nat.le_trans hbw HB1'.out.size
            have HR1 := Lib.hid (own_kept HR.out HB1'.out)
            have HBT := HAT.out.2.1.below HB1'.out HAT.out.2.1.lt
            have e0 := HBT.cell 0
            have e1 := HBT.cell 1
            have e2 := HBT.cell 2
            have e3 := HBT.cell 3
            simp [Nd.c] at e0 e1 e2 e3
            have hTw := HAT.out.2.1.lt
            clear hb1 HBT
            have hneX : (Value.slice A3 m c3).ownBlock ≠ some wr.heap.size := fun e => absurd (HR.out.lt _ e).2 (Nat.lt_irrefl _)
            have HNE := Lib.hid hneX; clear hneX
            go_wp2_with (first
              | (at_builtin; refine wpList_app rfl _ _ 22 rfl T 70 (.agg #[.string ⟨#[]⟩, .int .i64 0, .int .i64 0, .int .u32 0, .string ⟨#[]⟩]) 5 56 Tryz.underlying22 infoIt rfl (by decide) _ m _ rfl (HR1.out.alloc _) w1.heap.size 1 #[.string p, .int .i64 kd, .int .i64 md, .int .u32 tm, .string dt] 70 rfl (Blk.new _ _ _) rfl (by simp [Value.oneCell']) (by omega) (by decide) (by simp; omega) _ rfl ?_; intro g cap w5 hown1 hgrow1 hat9 hlt1; have HA := Lib.hid (And.intro hown1 hgrow1); have hbx5 := (HBX1.out.alloc (.cells #[.string p, .int .i64 kd, .int .i64 md, .int .u32 tm, .string dt] 70)).grown hgrow1 HNE.out.symm; have y0 := hbx5.cell 0; have y1 := hbx5.cell 1; have y2 := hbx5.cell 2; have y3 := hbx5.cell 3; have y4 := hbx5.cell 4; simp at y0 y1 y2 y3 y4; have HX5 := Lib.hid hbx5; have hs5 : w1.heap.size ≤ w5.heap.size := Nat.le_trans (by simp) hgrow1.size; clear hbx5; clear hown1 hgrow1 hat9)
              | (at_builtin; refine wpList_app rfl _ _ 22 rfl T 70 (.agg #[.string ⟨#[]⟩, .int .i64 0, .int .i64 0, .int .u32 0, .string ⟨#[]⟩]) 5 56 Tryz.underlying22 infoIt rfl (by decide) _ (m + 1) _ rfl (HA.out.1.alloc _) w5.heap.size 1 #[.string x.1, .int .i64 x.2.kind, .int .i64 x.2.mode, .int .u32 x.2.time, .string x.2.data] 70 rfl (Blk.new _ _ _) rfl (by simp [Value.oneCell']) (by omega) (by decide) (by simp; omega) _ rfl ?_; intro g6 cap6 w56 hown1 hgrow1 hat9 hlt16; have HA6 := Lib.hid (And.intro hown1 hgrow1); clear hown1 hgrow1 hat9))
            go_roundw
            case rel =>
              have h1 := SetAt.app (x := (p, ⟨kd, md, tm, dt⟩)) HAT.out HST1.out.2.2.2 (HB1'.out.alloc HB1'.out.size _) HA.out.1 HA.out.2
              refine ⟨i + 1, by omega, by go_num, by rw [HST1.out.1, HF.out], ?_⟩
              rw [HST1.out.1, HF.out]
              have h2 := HA6.out.1
              have h3 : (L ++ [(p, (⟨kd, md, tm, dt⟩ : Nd))]).flatMap eCSN = L.flatMap eCSN ++ #[.string p, .int .i64 kd, .int .i64 md, .int .u32 tm, .string dt].toList := by rw [List.flatMap_append]; rfl
              rw [← h3] at h2
              exact SetAt.app h1 (by rw [List.length_append, List.length_singleton, HST1.out.2.2.2]) ((Below.refl _ _).alloc (Nat.le_refl _) _) h2 HA6.out.2
            case measure => simp [intOf]; omega
          · have hf : Sw.stepG ordS p (⟨kd, md, tm, dt⟩ : Nd) (false, L) x = (false, L ++ [x]) := by
              have h1 : ¬ 0 ≤ ordS x.1 p := by
                have := ordS_neg x.1 p
                rcases ordS_three p x.1 with h | h | h
                all_goals first | exact absurd h hlt2 | (have := HK.out.1; omega)
              unfold Sw.stepG; simp [HK.out.1, h1]
            have HF := Lib.hid hf; clear hf
            have hdd : decide (ordS p x.1 = -1) = false := by simpa using hlt2
            rw [hdd] at HB
            clear hdd hlt2
            go_wp2_with fail
            refine HB.out.mono ?_
            rintro _ w1 ⟨rfl, hb1⟩
            have HBX1 := Lib.hid (HBX.out.below hb1 HBX.out.lt)
            have x0 := HBX1.out.cell 0
            have x1 := HBX1.out.cell 1
            have x2 := HBX1.out.cell 2
            have x3 := HBX1.out.cell 3
            have x4 := HBX1.out.cell 4
            simp at x0 x1 x2 x3 x4
            have HB1' := Lib.hid (HB1.out.trans (hb1.mono (by simp)))
            have hs1 : T ≤ w1.heap.size := Nat.le_trans hbw HB1'.out.size
            have HR1 := Lib.hid (own_kept HR.out HB1'.out)
            clear hb1
            go_wp2_with (at_builtin; refine wpList_app rfl _ _ 22 rfl T 70 (.agg #[.string ⟨#[]⟩, .int .i64 0, .int .i64 0, .int .u32 0, .string ⟨#[]⟩]) 5 56 Tryz.underlying22 infoIt rfl (by decide) _ m _ rfl (HR1.out.alloc _) w1.heap.size 1 #[.string x.1, .int .i64 x.2.kind, .int .i64 x.2.mode, .int .u32 x.2.time, .string x.2.data] 70 rfl (Blk.new _ _ _) rfl (by simp [Value.oneCell']) (by omega) (by decide) (by simp; omega) _ rfl ?_; intro g cap w5 hown1 hgrow1 hat9 hlt1; have HA := Lib.hid (And.intro hown1 hgrow1); clear hown1 hgrow1 hat9)
            go_roundw
            case rel => exact ⟨i + 1, by omega, by go_num, by rw [HST1.out.1, HF.out], by rw [HST1.out.1, HF.out]; exact SetAt.app HAT.out HST1.out.2.2.2 (HB1'.out.alloc HB1'.out.size _) HA.out.1 HA.out.2⟩
            case measure => simp [intOf]; omega
    · obtain rfl : i = N := by omega
      have htk : l.take i = l := List.take_of_length_le (by have := HL.out; omega)
      rw [htk] at hat ⊢
      clear htk
      have HST2 := HST.out
      obtain ⟨S, hS⟩ : ∃ S, l.foldl (Sw.stepG ordS p (⟨kd, md, tm, dt⟩ : Nd)) (false, []) = S := ⟨_, rfl⟩
      rw [hS] at HST2 hat ⊢
      rw [List.take_of_length_le (by have := HL.out; omega), hS] at hfl
      clear hS
      obtain ⟨d, L⟩ := S
      simp only at hat HST2 hfl ⊢
      obtain ⟨m, hm⟩ : ∃ m, L.length = m := ⟨_, rfl⟩
      rw [hm] at hfl
      rw [hm] at hat
      rw [hm]
      have hm2 : m ≤ 2000 := by simp at hfl; omega
      have HAT := Lib.hid hat
      have hR1 : wr.ownsRow T 70 5 (.slice A3 m c3) m (L.flatMap eCSN) := by have := hat.1; unfold OwnIt at this; rw [hm] at this; exact this
      have HR := Lib.hid hR1; clear hR1
      have e0 := hat.2.1.cell 0
      have e1 := hat.2.1.cell 1
      have e2 := hat.2.1.cell 2
      have e3 := hat.2.1.cell 3
      simp [Nd.c] at e0 e1 e2 e3
      have hTw := hat.2.1.lt
      have HF := Lib.hid (And.intro HST2 hm); clear HST2 hm hat
      cases d with
      | true =>
        go_wp2_with fail
        go_ret
        have h1 := HF.out.1
        rw [if_pos trivial] at h1
        rw [h1]
        exact ⟨_, rfl, by unfold OwnIt; rw [HF.out.2]; exact HR.out, HAT.out.2.2⟩
      | false =>
        go_wp2_with (at_builtin; refine wpList_app rfl _ _ 22 rfl T 70 (.agg #[.string ⟨#[]⟩, .int .i64 0, .int .i64 0, .int .u32 0, .string ⟨#[]⟩]) 5 56 Tryz.underlying22 infoIt rfl (by decide) _ m _ rfl (HR.out.alloc _) wr.heap.size 1 #[.string p, .int .i64 kd, .int .i64 md, .int .u32 tm, .string dt] 70 rfl (Blk.new _ _ _) rfl (by simp [Value.oneCell']) (by omega) (by decide) (by simp; omega) _ rfl ?_; intro g cap w5 hown1 hgrow1 hat9 hlt1; have HA := Lib.hid (And.intro hown1 hgrow1); clear hown1 hgrow1 hat9)
        go_ret
        have h1 := HF.out.1
        rw [if_neg (by simp)] at h1
        rw [h1]
        have h2 := SetAt.app (x := (p, ⟨kd, md, tm, dt⟩)) HAT.out HF.out.2 ((Below.refl _ _).alloc (Nat.le_refl _) _) HA.out.1 HA.out.2
        exact ⟨_, rfl, h2.1, h2.2.2⟩
end Go.Proofs.YtmpgmgjokliceaaGreatDoor
/- The reference's rows of items: Drop. -/
set_option linter.unusedVariables false
set_option linter.unusedSimpArgs false
namespace Go.Proofs.YtmpgmgjokliceaaGreatDoor
open Go Go.RowKit
open Sw
theorem drop_filt (p : ByteArray) : ∀ l : List NE, Up ordS l → (l.filter fun e => !decide (e.1 = p)) = dropN ordS p l
  | [], _ => rfl
  | e :: l, hu => by
    have hO := ordS_ord
    unfold dropN
    have hlater : 0 ≤ ordS e.1 p → ∀ y ∈ l, ¬ y.1 = p := fun h0 y hy he => by
      have h1 := hu.head y hy
      rw [he] at h1
      omega
    have hkeep : 0 ≤ ordS e.1 p → (l.filter fun e => !decide (e.1 = p)) = l := fun h0 => List.filter_eq_self.2 fun y hy => by simpa using hlater h0 y hy
    by_cases h1 : ordS e.1 p < 0
    · have hne : ¬ e.1 = p := fun he => by have := (hO.iff e.1 p).2 he; omega
      rw [if_pos h1, List.filter_cons_of_pos (by simpa using hne), drop_filt p l hu.tail]
    · rw [if_neg h1]
      by_cases h2 : ordS e.1 p = 0
      · rw [if_pos h2, List.filter_cons_of_neg (by simpa using hO.zero _ _ h2), hkeep (by omega)]
      · have hne : ¬ e.1 = p := fun he => h2 ((hO.iff e.1 p).2 he)
        rw [if_neg h2, List.filter_cons_of_pos (by simpa using hne), hkeep (by omega)]
end Go.Proofs.YtmpgmgjokliceaaGreatDoor
