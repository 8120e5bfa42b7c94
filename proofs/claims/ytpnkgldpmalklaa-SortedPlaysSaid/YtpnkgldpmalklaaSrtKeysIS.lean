/- sorted.Keys over int, string. -/
import Derived.Test.YtpnkgldpmalklaaSrtToldIS
set_option linter.unusedVariables false
set_option linter.unusedSimpArgs false
namespace Go.Proofs.Ytpnkgldpmalklaa
open Go Go.RowKit Go.Shelf
open Sw
attribute [local go_sem] Oper.semAt_some
theorem infoKIS : (Try.prog.info? 3).map (fun i => (i.zero, i.size, i.bytes)) = some (some (.int .i64 0), 1, 8) := by kernel_rfl
def KeysIIS (T gb : Nat) (v : Value) (xs : List (Int × ByteArray)) (pre : List (Int × ByteArray)) (W : World) : Prop := T + 1 ≤ W.heap.size ∧ (∃ o, Blk W T 47 #[o] ∧ W.ownsRow T 3 1 o pre.length (pre.map fun e => Value.int .i64 e.1)) ∧ Blk W gb 93 #[v] ∧ Lies W 100 2 eCIS v xs
theorem KeysIIS.own (T gb : Nat) (v : Value) (xs : List (Int × ByteArray)) : Own (KeysIIS T gb v xs) := fun _ A B row hs hg hr => ⟨Nat.le_trans hs.1 hg.size, by obtain ⟨o, h1, h2⟩ := hs.2.1; exact ⟨o, blk_ownF h1 hg hr, own_ownF h2 hg hr⟩, blk_ownF hs.2.2.1 hg hr, hs.2.2.2.ownF hg hr⟩
set_option maxRecDepth 100000 in
set_option maxHeartbeats 4000000 in
theorem keysIS_any (w : World) (bm : Nat) (xs : List (Int × ByteArray)) (h : SMapIS w bm xs) (hl : xs.length ≤ 100000) :
    Calls Try.prog 25 #[.pointer (some ⟨bm, 0, none⟩)] w fun e w' => ∃ u, e = .returned u ∧ w'.ownsRow w.heap.size 3 1 u xs.length (xs.map fun e => Value.int .i64 e.1) ∧ Below w.heap.size w w' := by
  have hBa : Below w.heap.size w (w.alloc (.cells #[.slice none 0 0] 47)) := (Below.refl _ w).alloc (Nat.le_refl _) _
  have HA := Lib.hid (srtAllIS_any _ bm xs (h.below hBa))
  refine callsIn_wide.1 (?_ : CallsIn Fence.wide 9 _ _ _ _ _)
  refine callsIn_of_wp_marks Try.func25 rfl trivial ?_ rfl
  simp only [Try.ntmps25, List.size_toArray, List.length_cons, List.length_nil, Nat.reduceAdd, Nat.reduceSub, Array.replicate_succ, Array.replicate_zero, List.push_toArray, List.append_toArray, List.nil_append, List.cons_append]
  gi_wp2
  refine ⟨trivial, ?_⟩
  refine (callsIn_wide.2 HA.out).mono ?_
  rintro e w2 ⟨gb, v, rfl, hgb2, hv2, hge, hvb, hb2⟩
  have b1 := (Blk.new w 47 #[.slice none 0 0]).below hb2 (by simp)
  have hB := hBa.trans (hb2.mono hBa.size)
  have hz := hb2.size
  simp only [World.size_alloc] at hz hge
  gi_wp2
  obtain ⟨T, hT⟩ : ∃ T, T = w.heap.size := ⟨_, rfl⟩
  rw [← hT] at b1 hB hz hge ⊢
  have hgl := hgb2.lt
  have HTE := Lib.hid hT; clear hT
  refine wpIn_rangeFunc_ownF rfl (by omega) (gf := 81) (lb := #[.pointer (some ⟨gb, 0, none⟩)]) rfl trivial (enters_of Try.func81 (by kernel_rfl) rfl)
    (toldIS_stops 8 (by omega) gb v xs w2 hgb2 hv2 (by omega)) KeepIt.trans (keepIt_b hgl hvb) (Below.refl _ _) (fun _ => rfl)
    (fun pre W => KeysIIS T gb v xs pre W ∧ Below T w W)
    (fun _ _ _ => False)
    (OwnFrom.and (Own.from (KeysIIS.own T gb v xs) _) (ownFrom_below (by have := HTE.out; omega) (by omega)))
    (fun _ _ _ _ _ hs _ _ => hs)
    ⟨⟨by omega, ⟨_, b1, World.ownsRow_nil _ _ _ _⟩, hgb2, hv2⟩, hB⟩
    ?a1 ?assign ?body ?done ?stop
  case assign =>
    intro l x W K hK
    gi_wp2
    exact hK
  case body =>
    rintro l pre x W ⟨⟨hsz, ⟨o, b1, ho⟩, hg, hL⟩, hB⟩ hlt
    have m1 := b1.cell 0
    have f1 := b1.frozen 0
    simp at m1
    obtain ⟨A3, c3, rfl, _, _, _⟩ := SlV_of_any ho
    have HH := Lib.hid (And.intro b1 (And.intro ho (And.intro hg (And.intro hL hB)))); clear b1 ho hg hL hB
    gi_wp2_with (gi_at_builtin; refine wpListIn_app rfl _ _ 47 rfl T 3 (.int .i64 0) 1 8 Try.underlying47 infoKIS rfl (by decide) _ pre.length _ rfl (HH.out.2.1.alloc _) W.heap.size 1 #[Value.int .i64 x.1] 3 rfl (Blk.new _ _ _) rfl (by simp [Value.oneCell']) (by omega) (by decide) (by simp; omega) _ rfl ?_; intro g cap w5 hown1 hgrow1 hat hlt1; have hb5 := app_pre HH.out.1 HH.out.2.1 ((Below.refl _ _).alloc (Nat.le_refl _) _) hgrow1 (by decide); have c5 := hb5.cell 0; have f5 := hb5.frozen 0; simp at c5)
    have hA := app_body HH.out.1 HH.out.2.1 ((Below.refl _ _).alloc (Nat.le_refl _) _) hgrow1 hown1 (by omega) (Nat.le_refl _) (by decide)
    have hK := hA.keepIt HH.out.2.2.1 HH.out.2.2.2.1 (by omega) (by decide) (by omega) (by decide) (by decide)
    refine ⟨hA.keeps, hK, ⟨Nat.le_trans hsz hA.below.size, ⟨_, hA.box, ?_⟩, hA.far _ _ _ HH.out.2.2.1 (by decide) (by omega), HH.out.2.2.2.1.kept (fun g cur h _ => hK.row g h)⟩, HH.out.2.2.2.2.trans hA.below⟩
    have := hA.own
    rw [List.length_append, List.map_append]
    simpa using this
  case done =>
    rintro D ys W hD rfl ⟨⟨hsz, ⟨o, b1, ho⟩, hg, hL⟩, hB⟩ hK
    have m1 := b1.cell 0
    have f1 := b1.frozen 0
    simp at m1
    obtain ⟨A3, c3, rfl, _, _, _⟩ := SlV_of_any ho
    have hD' : w.heap.size ≤ D := by have := HTE.out; omega
    have HF := Lib.hid (by
      have hb2 := b1.put 0 (.slice A3 ys.length c3)
      have ho2 := ho.kept (grown_put (grown_refl W (some T)) 0 (.slice A3 ys.length c3)) (.inr (own_ne_blk ho b1 (by decide)))
      have hK2 := (KeepsOthers.setCell W ⟨T, 0, none⟩ (.slice A3 ys.length c3)).same D _ hK rfl
      have hg := grownBy_putObj' (W.setCell ⟨T, 0, none⟩ (.slice A3 ys.length c3)) D (.deferred none)
      have hw := fun r e => show ∃ o : Obj, (W.setCell ⟨T, 0, none⟩ (.slice A3 ys.length c3)).heap[r]? = some o ∧ o.isCells = false from (by cases (e : some D = some r); exact ⟨_, hK2, rfl⟩)
      have hB2 := hB.setCell (p := ⟨T, 0, none⟩) (Nat.le_refl _) (.slice A3 ys.length c3)
      exact And.intro hK2 (And.intro (blk_ownF hb2 hg hw) (And.intro (own_ownF ho2 hg hw) (hB2.trans (belowK_b (w := w) (by have := HTE.out; omega) _ D _ (.deferred none) hD' hK2 rfl rfl)))))
    clear ho hB b1 hg hL
    gi_wp2
    refine ⟨by simp, .inl ⟨_, _, rfl, run_takeDeferred HF.out.1, ?_⟩⟩
    refine ⟨_, res_cell_sl rfl _ _ T 47 (.slice A3 ys.length c3) rfl HF.out.2.1 Try.underlying47, ⟨_, rfl, ?_, ?_⟩⟩
    · rw [← HTE.out]; exact HF.out.2.2.1
    · rw [← HTE.out]; exact HF.out.2.2.2
  case stop =>
    rintro D c pre W hD hSp h hK
    exact h.elim
end Go.Proofs.Ytpnkgldpmalklaa
