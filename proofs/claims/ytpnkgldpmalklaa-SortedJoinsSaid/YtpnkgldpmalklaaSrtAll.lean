/- The law's all: what an iterator tells, at most so many. sorted.Keys. -/
import Derived.Test.YtpnkgldpmalklaaSrtBackIS
import Derived.Test.YtpnkgldpmalklaaSrtRef
set_option linter.unusedVariables false
set_option linter.unusedSimpArgs false
namespace Go.Proofs.Ytpnkgldpmalklaa
open Go Go.RowKit Go.Shelf
open Sw
attribute [local go_sem] Oper.semAt_some
def AllI (T : Nat) (most : Int) (pre : List EnS) (W : World) : Prop := ((pre.length ≤ most.toNat ∧ T + 1 + 1 ≤ W.heap.size) ∧ Blk W T 3 #[.int .i64 most]) ∧ ∃ o, Blk W (T + 1) 28 #[o] ∧ Own15 W T o pre
def AllX (T : Nat) (most : Int) (c : Code) (pre : List EnS) (W : World) : Prop := ∃ (pre' : List EnS) (x : EnS), pre = pre' ++ [x] ∧ pre'.length = most.toNat ∧ c = .exit 0 ∧ T + 1 + 1 ≤ W.heap.size ∧ ∃ o, Blk W (T + 1) 28 #[o] ∧ Own15 W T o pre'
theorem AllI.own (T : Nat) (most : Int) : Own (AllI T most) := fun _ A B row hs hg hr => ⟨⟨⟨hs.1.1.1, Nat.le_trans hs.1.1.2 hg.size⟩, blk_ownF hs.1.2 hg hr⟩, by obtain ⟨o, h1, h2⟩ := hs.2; exact ⟨o, blk_ownF h1 hg hr, own_ownF h2 hg hr⟩⟩
theorem AllX.own (T : Nat) (most : Int) (c : Code) : Own (AllX T most c) := fun _ A B row hs hg hr => by
  obtain ⟨p', x, e1, e2, e3, e4, o, h1, h2⟩ := hs
  exact ⟨p', x, e1, e2, e3, Nat.le_trans e4 hg.size, o, blk_ownF h1 hg hr, own_ownF h2 hg hr⟩
set_option maxRecDepth 100000 in
set_option maxHeartbeats 4000000 in
theorem all15_any (w : World) (gb : Nat) (v : Value) (xs : List EnS) (most : Int) (hgb : Blk w gb 93 #[v]) (hv : Lies w 100 2 eCIS v xs) (hvb : ∀ g, v.ownBlock = some g → g < w.heap.size) (hl : xs.length ≤ 1000) :
    Calls Try.prog 21 #[.func (.func 81) #[] #[.pointer (some ⟨gb, 0, none⟩)], .int .i64 most] w fun e w' => ∃ u, e = .returned (.tuple #[u, .bool true]) ∧ Own15 w' w.heap.size u (xs.take most.toNat) ∧ Below w.heap.size w w' := by
  have hnf : ∀ W, (binOp .eql 44 (.func (.func 81) #[] #[.pointer (some ⟨gb, 0, none⟩)]) Value.nilFunc).run Try.prog W = .ok (.bool false) W := fun W => rfl
  refine callsIn_wide.1 (?_ : CallsIn Fence.wide 9 _ _ _ _ _)
  refine callsIn_of_wp_marks Try.func21 rfl trivial ?_ rfl
  simp only [Try.ntmps21, List.size_toArray, List.length_cons, List.length_nil, Nat.reduceAdd, Nat.reduceSub, Array.replicate_succ, Array.replicate_zero, List.push_toArray, List.append_toArray, List.nil_append, List.cons_append]
  gi_wp2
  have b0 := blk_fst w #[.int .i64 most] 3 (.cells #[.slice none 0 0] 28)
  have b1 := blk_snd w (.cells #[.int .i64 most] 3) #[.slice none 0 0] 28
  have hB : Below w.heap.size w ((w.alloc (.cells #[.int .i64 most] 3)).alloc (.cells #[.slice none 0 0] 28)) := ((Below.refl _ w).alloc (Nat.le_refl _) _).alloc (by simp) _
  have hz : ((w.alloc (.cells #[.int .i64 most] 3)).alloc (.cells #[.slice none 0 0] 28)).heap.size = w.heap.size + 1 + 1 := by simp
  have hgb2 := hgb.below hB hgb.lt
  have hv2 := hv.below hB
  have hgl := hgb.lt
  generalize (w.alloc (.cells #[.int .i64 most] 3)).alloc (.cells #[.slice none 0 0] 28) = w2 at *
  obtain ⟨T, hT⟩ : ∃ T, T = w.heap.size := ⟨_, rfl⟩
  rw [← hT] at b0 b1 hB hz ⊢
  have hgT : gb < T := by omega
  have hvT : ∀ g, v.ownBlock = some g → g < T := fun g hg => by have := hvb g hg; omega
  have HTE := Lib.hid hT; clear hT
  refine wpIn_rangeFunc_ownF rfl (by omega) (gf := 81) (lb := #[.pointer (some ⟨gb, 0, none⟩)]) rfl trivial (enters_of Try.func81 (by kernel_rfl) rfl)
    (toldIS_stops 8 (by omega) gb v xs w2 hgb2 hv2 (by omega)) KeepIt.trans (keepIt_b (by omega) (fun g hg => by have := hvT g hg; omega)) (Below.refl _ _) (fun _ => rfl)
    (fun pre W => AllI T most pre W ∧ Below T w W)
    (fun c pre W => AllX T most c pre W ∧ Below T w W)
    (OwnFrom.and (Own.from (AllI.own T most) _) (ownFrom_below (by have := HTE.out; omega) (by omega)))
    (fun c => OwnFrom.and (Own.from (AllX.own T most c) _) (ownFrom_below (by have := HTE.out; omega) (by omega)))
    ⟨⟨⟨⟨by simp, by omega⟩, b0⟩, _, b1, World.ownsRow_nil _ _ _ _⟩, hB⟩
    ?a1 ?assign ?body ?done ?stop
  case assign =>
    intro l x W K hK
    gi_wp2
    exact hK
  case body =>
    rintro l pre x W ⟨⟨⟨⟨hle, hsz⟩, b0⟩, o, b1, ho⟩, hB⟩ hlt
    have m0 := b0.cell 0
    have m1 := b1.cell 0
    have f1 := b1.frozen 0
    simp at m0 m1
    obtain ⟨A3, c3, rfl, _, _, _⟩ := SlV_of_any ho
    have HH := Lib.hid (And.intro b0 (And.intro b1 (And.intro ho hB))); clear b0 b1 ho hB
    by_cases hm : (pre.length : Int) < most
    · have hm' : ¬ most ≤ (pre.length : Int) := by omega
      gi_wp2_with (gi_at_builtin; refine wpListIn_app rfl _ _ 28 rfl T 40 (.agg #[.int .i64 0, .string ⟨#[]⟩]) 2 24 Try.underlying28 infoE15 rfl (by decide) _ pre.length _ rfl (HH.out.2.2.1.alloc _) W.heap.size 1 #[.int .i64 x.1, .string x.2] 40 rfl (Blk.new _ _ _) rfl (by simp [Value.oneCell']) (by omega) (by decide) (by simp; omega) _ rfl ?_; intro g cap w5 hown1 hgrow1 hat hlt1; have hb5 := app_pre HH.out.2.1 HH.out.2.2.1 ((Below.refl _ _).alloc (Nat.le_refl _) _) hgrow1 (by decide); have c5 := hb5.cell 0; have f5 := hb5.frozen 0; simp at c5)
      have hA := app_body HH.out.2.1 HH.out.2.2.1 ((Below.refl _ _).alloc (Nat.le_refl _) _) hgrow1 hown1 (by omega) (by omega) (by decide)
      refine ⟨hA.keeps, .below hA.below hgT hvT, ⟨⟨⟨by simp; omega, Nat.le_trans hsz hA.below.size⟩, hA.far _ _ _ HH.out.1 (by decide) (by omega)⟩, _, hA.box, ?_⟩, HH.out.2.2.2.trans hA.below⟩
      have := hA.own
      unfold Own15
      rw [List.length_append, List.flatMap_append]
      simpa [eCIS] using this
    · have hm' : most ≤ (pre.length : Int) := by omega
      gi_wp2
      exact ⟨KeepsOthers.refl _, ⟨pre, x, rfl, by omega, rfl, hsz, _, HH.out.2.1, HH.out.2.2.1⟩, HH.out.2.2.2⟩
  case done =>
    rintro D ys W hD rfl ⟨⟨⟨⟨hle, hsz⟩, b0⟩, o, b1, ho⟩, hB⟩ hK
    have m1 := b1.cell 0
    simp at m1
    obtain ⟨A3, c3, rfl, _, _, _⟩ := SlV_of_any ho
    have hD' : w.heap.size ≤ D := by have := HTE.out; omega
    have htk : ys.take most.toNat = ys := List.take_of_length_le hle
    have hg := grownBy_putObj' W D (.deferred none)
    have hw := fun r e => show ∃ o : Obj, W.heap[r]? = some o ∧ o.isCells = false from (by cases (e : some D = some r); exact ⟨_, hK, rfl⟩)
    have HF := Lib.hid (And.intro (own_ownF ho hg hw) (hB.trans (belowK_b (w := w) (by have := HTE.out; omega) W D _ (.deferred none) hD' hK rfl rfl)))
    have HT := Lib.hid htk
    clear ho hB b0 b1 htk
    gi_wp2
    refine ⟨by simp, .inl ⟨_, _, rfl, run_takeDeferred hK, ?_⟩⟩
    refine ⟨_, results_tmp2 rfl _ _ _, ⟨_, rfl, ?_, ?_⟩⟩
    · rw [HT.out, ← HTE.out]; exact HF.out.1
    · rw [← HTE.out]; exact HF.out.2
  case stop =>
    rintro D c pre W hD hSp ⟨⟨p', x, rfl, hlen, rfl, hsz, o, b1, ho⟩, hB⟩ hK
    have m1 := b1.cell 0
    simp at m1
    obtain ⟨A3, c3, rfl, _, _, _⟩ := SlV_of_any ho
    have hD' : w.heap.size ≤ D := by have := HTE.out; omega
    have htk : xs.take most.toNat = p' := by
      obtain ⟨r, hr⟩ := hSp
      rw [← hr, List.append_assoc, ← hlen]
      exact List.take_left
    have hg := grownBy_putObj' W D (.deferred none)
    have hw := fun r e => show ∃ o : Obj, W.heap[r]? = some o ∧ o.isCells = false from (by cases (e : some D = some r); exact ⟨_, hK, rfl⟩)
    have HF := Lib.hid (And.intro (own_ownF ho hg hw) (hB.trans (belowK_b (w := w) (by have := HTE.out; omega) W D _ (.deferred none) hD' hK rfl rfl)))
    have HT := Lib.hid htk
    clear ho hB b1 htk hSp hlen
    gi_wp2
    refine ⟨by simp, .inl ⟨_, _, rfl, run_takeDeferred hK, ?_⟩⟩
    refine ⟨_, results_tmp2 rfl _ _ _, ⟨_, rfl, ?_, ?_⟩⟩
    · rw [HT.out, ← HTE.out]; exact HF.out.1
    · rw [← HTE.out]; exact HF.out.2
end Go.Proofs.Ytpnkgldpmalklaa
