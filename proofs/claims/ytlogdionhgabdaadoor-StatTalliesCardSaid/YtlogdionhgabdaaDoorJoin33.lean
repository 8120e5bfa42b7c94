/- Several texts, joined for the limit of sixty files; each one opens with its own comment. -/
import Derived.Test.YtlogdionhgabdaaDoorJoin31
import Derived.Test.YtlogdionhgabdaaDoorJoin32
/- The law's top: what came most, at most so many. -/
set_option linter.unusedVariables false
set_option linter.unusedSimpArgs false
namespace Go.Proofs.YtlogdionhgabdaaDoor
open Go Go.RowKit Go.Shelf
open Sw
attribute [local go_sem] Oper.semAt_some
def TlI (T T2 : Nat) (most : Int) (pre : List En) (W : World) : Prop := (pre.length ≤ most.toNat ∧ T2 + 1 ≤ W.heap.size) ∧ Blk W T 3 #[.int .i64 most] ∧ ∃ o, Blk W T2 22 #[o] ∧ Own39 W T2 o pre
def TlX (T2 : Nat) (most : Int) (c : Code) (pre : List En) (W : World) : Prop := ∃ (pre' : List En) (x : En), pre = pre' ++ [x] ∧ pre'.length = most.toNat ∧ c = .exit 0 ∧ T2 + 1 ≤ W.heap.size ∧ ∃ o, Blk W T2 22 #[o] ∧ Own39 W T2 o pre'
theorem TlI.own (T T2 : Nat) (most : Int) : Own (TlI T T2 most) := fun _ A B row hs hg hr => ⟨⟨hs.1.1, Nat.le_trans hs.1.2 hg.size⟩, blk_ownF hs.2.1 hg hr, by obtain ⟨o, h1, h2⟩ := hs.2.2; exact ⟨o, blk_ownF h1 hg hr, own_ownF h2 hg hr⟩⟩
theorem TlX.own (T2 : Nat) (most : Int) (c : Code) : Own (TlX T2 most c) := fun _ A B row hs hg hr => by
  obtain ⟨p', x, e1, e2, e3, e4, o, h1, h2⟩ := hs
  exact ⟨p', x, e1, e2, e3, Nat.le_trans e4 hg.size, o, blk_ownF h1 hg hr, own_ownF h2 hg hr⟩
set_option maxRecDepth 100000 in
set_option maxHeartbeats 8000000 in
theorem top39_any (w : World) (tb bm : Nat) (xs : List En) (k most : Int) (hT : Tly w tb bm xs) (hl : xs.length ≤ 1000) (M : List (En × Nat)) (hM : M.Perm xs.zipIdx) (hU : UpS cmpT M) :
    Calls Tryd.prog 11 #[.pointer (some ⟨tb, 0, none⟩), .int .i64 k, .int .i64 most] w fun e w' => ∃ u, e = .returned (.tuple #[u, .bool true]) ∧ Own39 w' w.heap.size u (((M.map Prod.fst).take (max 0 (min k M.length)).toNat).take most.toNat) ∧ Below w.heap.size w w' := by
  have hml : M.length ≤ 1000 := by rw [hM.length_eq, List.length_zipIdx]; exact hl
  obtain ⟨R, hR⟩ : ∃ R, (M.map Prod.fst).take (max 0 (min k M.length)).toNat = R := ⟨_, rfl⟩
  have hRl : R.length ≤ 1000 := by rw [← hR, List.length_take, List.length_map]; omega
  rw [hR]
  have HRR := Lib.hid hR; clear hR
  have hnf : ∀ W b1 b2, (binOp .eql 48 (.func (.func 27) #[] #[.pointer (some ⟨b1, 0, none⟩), .pointer (some ⟨b2, 0, none⟩)]) Value.nilFunc).run Tryd.prog W = .ok (.bool false) W := fun W b1 b2 => rfl
  have b0 := Blk.new w 3 #[.int .i64 most]
  have hB : Below w.heap.size w (w.alloc (.cells #[.int .i64 most] 3)) := (Below.refl _ w).alloc (Nat.le_refl _) _
  have H0 := Lib.hid (And.intro b0 (And.intro hB (hT.below hB))); clear b0 hB hT
  refine callsIn_wide.1 (?_ : CallsIn Fence.wide 9 _ _ _ _ _)
  refine callsIn_of_wp_marks Tryd.func11 rfl trivial ?_ rfl
  simp only [Tryd.ntmps11, List.size_toArray, List.length_cons, List.length_nil, Nat.reduceAdd, Nat.reduceSub, Array.replicate_succ, Array.replicate_zero, List.push_toArray, List.append_toArray, List.nil_append, List.cons_append]
  gi_wp2
  obtain ⟨w1, hw1⟩ : ∃ w1, w.alloc (.cells #[.int .i64 most] 3) = w1 := ⟨_, rfl⟩
  rw [hw1] at H0
  rw [hw1]
  clear hw1
  refine ⟨trivial, (callsIn_wide.2 (statTop_any w1 tb k)).mono ?_⟩
  rintro e w2 ⟨b1, b2, rfl, hB1, hB2, hb1, hb2, hbw⟩
  have hnf2 := hnf w2 b1 b2
  have H2 := Lib.hid (And.intro (H0.out.1.below hbw H0.out.1.lt) (And.intro (H0.out.2.1.trans (hbw.mono H0.out.2.1.size)) (And.intro (H0.out.2.2.below hbw) (And.intro hB1 hB2))))
  clear hbw hB1 hB2 hb1 hb2
  gi_wp2
  obtain ⟨T, hTe⟩ : ∃ T, T = w.heap.size := ⟨_, rfl⟩
  obtain ⟨T2, hT2⟩ : ∃ T2, T2 = w2.heap.size := ⟨_, rfl⟩
  have c0 := Blk.new w2 22 #[.slice none 0 0]
  have hba : Below w2.heap.size w2 (w2.alloc (.cells #[.slice none 0 0] 22)) := (Below.refl _ w2).alloc (Nat.le_refl _) _
  have hs3 : (w2.alloc (.cells #[.slice none 0 0] 22)).heap.size = T2 + 1 := by rw [hT2]; simp
  have H3 := Lib.hid (And.intro (H2.out.1.below hba H2.out.1.lt) (And.intro (H2.out.2.1.trans (hba.mono H2.out.2.1.size)) (And.intro (H2.out.2.2.1.below hba) (And.intro (H2.out.2.2.2.1.below hba H2.out.2.2.2.1.lt) (And.intro (H2.out.2.2.2.2.below hba H2.out.2.2.2.2.lt) c0)))))
  have hlt1 := H2.out.2.2.2.1.lt
  have hlt2 := H2.out.2.2.2.2.lt
  have hT12 : T < T2 := by rw [hTe, hT2]; exact H2.out.1.lt
  have H12 := Lib.hid (Nat.le_of_lt hT12)
  clear c0 hba hnf hnf2
  rw [← hTe, ← hT2] at H3 ⊢
  rw [← hT2] at hlt1 hlt2
  generalize w2.alloc (.cells #[.slice none 0 0] 22) = w3 at *
  have HTE := Lib.hid (And.intro hTe hT2); clear hTe hT2 H2 H0
  have htt := top1_tells 8 (by omega) b1 b2 tb bm xs k w3 H3.out.2.2.2.1 H3.out.2.2.2.2.1 H3.out.2.2.1 hl M hM hU
  simp only [HRR.out] at htt
  refine wpIn_rangeFunc_nest (Mine := fun _ => False) (fun _ h => h.elim) rfl (by omega) (gf := 27) (lb := #[.pointer (some ⟨b1, 0, none⟩), .pointer (some ⟨b2, 0, none⟩)]) rfl trivial (enters_of Tryd.func27 (by kernel_rfl) rfl)
    htt KeepTy.trans (fun W l o o' h1 h2 => keepTy_b W l o o' h2) (Below.refl _ _) (fun _ => rfl)
    (fun pre W => TlI T T2 most pre W ∧ Below T w W)
    (fun c pre W => TlX T2 most c pre W ∧ Below T w W)
    (OwnM.of_none (OwnFrom.and (Own.from (TlI.own T T2 most) _) (ownFrom_below (by have := HTE.out.1; omega) (by omega))))
    (fun c => OwnM.of_none (OwnFrom.and (Own.from (TlX.own T2 most c) _) (ownFrom_below (by have := HTE.out.1; omega) (by omega))))
    ⟨⟨⟨by simp, by omega⟩, H3.out.1, _, H3.out.2.2.2.2.2, World.ownsRow_nil _ _ _ _⟩, H3.out.2.1⟩
    ?a1 ?assign ?body ?done ?stop
  case assign =>
    intro l x W K hK
    gi_wp2
    exact hK
  case body =>
    rintro l pre x W ⟨⟨⟨hle, hsz⟩, b0, o, b1, ho⟩, hB⟩ hlt hD2
    have hpl : pre.length + 1 ≤ 1000 := by obtain ⟨r, hr⟩ := hlt; have := congrArg List.length hr; simp at this; omega
    have m0 := b0.cell 0
    have m1 := b1.cell 0
    have f1 := b1.frozen 0
    simp at m0 m1
    obtain ⟨A3, c3, rfl, _, _, _⟩ := SlV_of_any ho
    have HH := Lib.hid (And.intro b0 (And.intro b1 (And.intro ho hB))); clear b0 b1 ho hB hlt
    by_cases hm : (pre.length : Int) < most
    · have hm' : ¬ most ≤ (pre.length : Int) := by omega
      gi_wp2_with (gi_at_builtin; refine wpListIn_app rfl _ _ 22 rfl T2 29 (.agg #[.int .i64 0, .int .i64 0]) 2 16 Tryd.underlying22 infoE39 rfl (by decide) _ pre.length _ rfl (HH.out.2.2.1.alloc _) W.heap.size 1 #[.int .i64 x.1, .int .i64 x.2] 29 rfl (Blk.new _ _ _) rfl (by simp [Value.oneCell']) (by omega) (by decide) (by simp; omega) _ rfl ?_; intro g cap w5 hown1 hgrow1 hat hlt1; have hb5 := app_pre HH.out.2.1 HH.out.2.2.1 ((Below.refl _ _).alloc (Nat.le_refl _) _) hgrow1 (by decide); have c5 := hb5.cell 0; have f5 := hb5.frozen 0; simp at c5)
      have hA := app_body HH.out.2.1 HH.out.2.2.1 ((Below.refl _ _).alloc (Nat.le_refl _) _) hgrow1 hown1 (by omega) (by omega) (by decide)
      have hKy : KeepTy 61 W _ := ⟨hA.keeps.size, fun g' cs hg' => hA.far _ _ _ hg' (by decide) (fun e' => by subst e'; exact absurd (hA.typ _ _ hg') (by decide)), fun k ds hk => hA.keeps.same k _ hk rfl⟩
      refine ⟨hA.keeps, hKy, ⟨⟨by simp; omega, Nat.le_trans hsz hA.below.size⟩, hA.far _ _ _ HH.out.1 (by decide) (by omega), _, hA.box, ?_⟩, HH.out.2.2.2.trans (hA.below.mono (by omega))⟩
      have := hA.own
      unfold Own39
      rw [List.length_append, List.flatMap_append]
      simpa [eCII] using this
    · have hm' : most ≤ (pre.length : Int) := by omega
      gi_wp2
      exact ⟨KeepsOthers.refl _, ⟨pre, x, rfl, by omega, rfl, hsz, _, HH.out.2.1, HH.out.2.2.1⟩, HH.out.2.2.2⟩
  case done =>
    rintro _ ys W rfl rfl ⟨⟨⟨hle, hsz⟩, b0, o, b1, ho⟩, hB⟩ hK
    have m1 := b1.cell 0
    simp at m1
    obtain ⟨A3, c3, rfl, _, _, _⟩ := SlV_of_any ho
    have hg := grownBy_putObj' W w3.heap.size (.deferred none)
    have hw := fun r e => show ∃ o : Obj, W.heap[r]? = some o ∧ o.isCells = false from (by cases (e : some w3.heap.size = some r); exact ⟨_, hK, rfl⟩)
    have htk := List.take_of_length_le hle
    have HF := Lib.hid (And.intro (own_ownF ho hg hw) (hB.trans (belowK_b (w := w) (by have := HTE.out.1; omega) W w3.heap.size _ (.deferred none) (by have := HTE.out.1; omega) hK rfl rfl)))
    have HT := Lib.hid htk
    clear ho hB b0 b1 htk
    gi_wp2
    refine ⟨by simp, .inl ⟨_, _, rfl, run_takeDeferred hK, ?_⟩⟩
    refine ⟨_, results_tmp2 rfl _ _ _, ⟨_, rfl, ?_, ?_⟩⟩
    · rw [HT.out, ← HTE.out.1]; exact own_wide HF.out.1 H12.out
    · rw [← HTE.out.1]; exact HF.out.2
  case stop =>
    rintro _ c pre W rfl hSp ⟨⟨p', x, rfl, hlen, rfl, hsz, o, b1, ho⟩, hB⟩ hK
    have m1 := b1.cell 0
    simp at m1
    obtain ⟨A3, c3, rfl, _, _, _⟩ := SlV_of_any ho
    have htk : R.take most.toNat = p' := by
      obtain ⟨r, hr⟩ := hSp
      rw [← hr, List.append_assoc, ← hlen]
      exact List.take_left
    have hg := grownBy_putObj' W w3.heap.size (.deferred none)
    have hw := fun r e => show ∃ o : Obj, W.heap[r]? = some o ∧ o.isCells = false from (by cases (e : some w3.heap.size = some r); exact ⟨_, hK, rfl⟩)
    have HF := Lib.hid (And.intro (own_ownF ho hg hw) (hB.trans (belowK_b (w := w) (by have := HTE.out.1; omega) W w3.heap.size _ (.deferred none) (by have := HTE.out.1; omega) hK rfl rfl)))
    have HT := Lib.hid htk
    clear ho hB b1 htk hSp hlen
    gi_wp2
    refine ⟨by simp, .inl ⟨_, _, rfl, run_takeDeferred hK, ?_⟩⟩
    refine ⟨_, results_tmp2 rfl _ _ _, ⟨_, rfl, ?_, ?_⟩⟩
    · rw [HT.out, ← HTE.out.1]; exact own_wide HF.out.1 H12.out
    · rw [← HTE.out.1]; exact HF.out.2
end Go.Proofs.YtlogdionhgabdaaDoor
