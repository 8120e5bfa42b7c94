/- Several texts, joined for the limit of sixty files; each one opens with its own comment. -/
import Derived.Test.YtnpehjgnplaabaaGreatDoorJoin25
import Derived.Test.YtnpehjgnplaabaaGreatDoorJoin5
import Derived.BigRegion
import Derived.Test.YtnpehjgnplaabaaGreatDoorChecked
import Derived.Test.YtnpehjgnplaabaaGreatDoorJoin9
import Derived.Test.YtnpehjgnplaabaaGreatDoorJoin2
import Derived.Test.YtnpehjgnplaabaaGreatDoorRows
/- Several texts, joined for the limit of sixty files; each one opens with its own comment. -/
/- A region that draws its order, walked along a tree of orders: as Chain's law, where two operations may be ready at once. Over any program. -/
set_option linter.unusedVariables false
set_option linter.unusedSimpArgs false
namespace Sw
open Go
/-- the orders: 'first': yields the same in the class; 'forced': the only one ready; 'two': one of two -/
inductive PermT where
  | nil : PermT
  | first : Nat → PermT → PermT
  | forced : Nat → PermT → PermT
  | two : Nat → PermT → Nat → PermT → PermT
inductive MixT where
  | nil : MixT
  | first : Oper → MixT → MixT
  | forced : Oper → MixT → MixT
  | two : Oper → MixT → Oper → MixT → MixT
def PermT.depth : PermT → Nat
  | .nil => 0
  | .first _ r => r.depth + 1
  | .forced _ r => r.depth + 1
  | .two _ r _ _ => r.depth + 1
def permBT (md : Region.Mode) (ops : Array Oper) : PermT → Array Bool → Bool
  | .nil, listed => (Region.ready md ops listed).isEmpty
  | .first i r, listed => (Region.ready md ops listed).contains i && Region.free md ops listed i && permBT md ops r (listed.setIfInBounds i true)
  | .forced i r, listed => decide (Region.ready md ops listed = [i]) && permBT md ops r (listed.setIfInBounds i true)
  | .two i r j s, listed => decide (Region.ready md ops listed = [i, j]) && decide (s.depth = r.depth) && permBT md ops r (listed.setIfInBounds i true) && permBT md ops s (listed.setIfInBounds j true)
def pickT (ops : Array Oper) : PermT → MixT
  | .nil => .nil
  | .first i r => match ops[i]? with
    | some o => .first o (pickT ops r)
    | none => .nil
  | .forced i r => match ops[i]? with
    | some o => .forced o (pickT ops r)
    | none => .nil
  | .two i r j s => match ops[i]?, ops[j]? with
    | some o, some p => .two o (pickT ops r) p (pickT ops s)
    | _, _ => .nil
def mixT (P : Program) (ops : Array Oper) (C : World → Prop) (Q : Exit → Act → World → Prop) : MixT → Act → World → Prop
  | .nil, a, w => C w ∧ Q .normal a w
  | .first o r, a, w => ∃ A1, (∀ m : Held C, wpStill P ops (HeldW m) (fun a' => a' = A1) [o] a) ∧ C w ∧ mixT P ops C Q r A1 w
  | .forced o r, a, w => C w ∧ wpList P ops (OnlyN fun _ a' w' => mixT P ops C Q r a' w') [o] a w
  | .two o r p s, a, w => C w ∧ wpList P ops (OnlyN fun _ a' w' => mixT P ops C Q r a' w') [o] a w ∧ wpList P ops (OnlyN fun _ a' w' => mixT P ops C Q s a' w') [p] a w
section
variable {P : Program} {ops : Array Oper} {md : Region.Mode} {Q : Exit → Act → World → Prop} {C : World → Prop}
theorem wpOp_of_list {j : Nat} {o : Oper} (ho : ops[j]? = some o) {K K' : Act → World → Prop} {a : Act} {w : World} (hgo : ∀ a' w', K a' w' → K' a' w') (hw : wpList P ops (OnlyN fun _ a' w' => K a' w') [o] a w) : wpOp P ops (OnlyN Q) j K' a w := by
  unfold wpOp
  simp only [ho]
  simp only [wpList] at hw
  split
  · rename_i hwt
    rw [if_pos hwt] at hw
    rcases hw with hw | hw
    · left
      unfold Oper.wp at *
      generalize (execOp a.eval o).run P w = res at *
      cases res with
      | ok n w' =>
        cases n <;> simp only [Oper.upon] at hw ⊢
        case value u => exact hgo _ _ hw
        case skip => exact hgo _ _ hw
        case defer d => exact hgo _ _ hw
        case enter f args => exact Calls.mono hw (fun e w'' he => by
          cases e
          · exact hgo _ _ he
          · exact he
          · exact absurd he OnlyN.out)
        case row row args => exact Rows.mono hw (fun v w'' he => hgo _ _ he)
      | halt x w' => cases x <;> simp only [Oper.upon] at hw ⊢ <;> exact hw
    · exact absurd hw.2 OnlyN.out
  · rename_i hwt
    rw [if_neg hwt] at hw
    exact hgo _ _ hw
theorem anyC_of_mixT (hs : Region.noSelect ops = true) : ∀ (perm : PermT) (listed : Array Bool) (a : Act) (w : World), permBT md ops perm listed = true → mixT P ops C Q (pickT ops perm) a w → anyC P md ops C Q perm.depth listed a w
  | .nil, listed, a, w, hB, h => ⟨h.1, by simpa [permBT] using hB, h.2⟩
  | .first i r, listed, a, w, hB, h => by
    simp only [permBT, Bool.and_eq_true] at hB
    obtain ⟨⟨hr, hf⟩, hB'⟩ := hB
    have hr' : i ∈ Region.ready md ops listed := by simpa using hr
    obtain ⟨_, o, ho, _⟩ := mem_ready.1 hr'
    simp only [pickT, ho] at h
    obtain ⟨A1, hv, hC, hm⟩ := h
    have hst : ∀ W, C W → ∃ v', YieldsAt P ops W o v' a ∧ a.put o.dst v' = A1 := fun W hW => by
      have h1 : stOp P ops W i (fun a' => a' = A1) a := by unfold stOp; simp only [ho]; exact hv ⟨W, hW⟩
      exact yieldsAt_of_stOp ho h1
    obtain ⟨v, _, rfl⟩ := hst w hC
    exact anyC_first ho (Region.noSelect_spec hs) r.depth listed a w (Region.free_spec ho hf) hr' hC hst (anyC_of_mixT hs r _ _ w hB' hm)
  | .forced i r, listed, a, w, hB, h => by
    simp only [permBT, Bool.and_eq_true, decide_eq_true_eq] at hB
    obtain ⟨hr, hB'⟩ := hB
    have hr' : i ∈ Region.ready md ops listed := by rw [hr]; simp
    obtain ⟨_, o, ho, _⟩ := mem_ready.1 hr'
    simp only [pickT, ho] at h
    obtain ⟨hC, hw⟩ := h
    refine ⟨hC, by rw [hr]; simp, fun j hj => ?_⟩
    rw [hr] at hj
    obtain rfl : j = i := by simpa using hj
    exact wpOp_of_list ho (fun a' w' hm => anyC_of_mixT hs r _ a' w' hB' hm) hw
  | .two i r j s, listed, a, w, hB, h => by
    simp only [permBT, Bool.and_eq_true, decide_eq_true_eq] at hB
    obtain ⟨⟨⟨hr, hd⟩, hB1⟩, hB2⟩ := hB
    have hri : i ∈ Region.ready md ops listed := by rw [hr]; simp
    have hrj : j ∈ Region.ready md ops listed := by rw [hr]; simp
    obtain ⟨_, o, ho, _⟩ := mem_ready.1 hri
    obtain ⟨_, p, hp, _⟩ := mem_ready.1 hrj
    simp only [pickT, ho, hp] at h
    obtain ⟨hC, hw1, hw2⟩ := h
    refine ⟨hC, by rw [hr]; simp, fun k hk => ?_⟩
    rw [hr] at hk
    rcases List.mem_cons.1 hk with rfl | hk
    · exact wpOp_of_list ho (fun a' w' hm => anyC_of_mixT hs r _ a' w' hB1 hm) hw1
    · obtain rfl : k = j := by simpa using hk
      exact wpOp_of_list hp (fun a' w' hm => by
        have := anyC_of_mixT hs s (listed.setIfInBounds k true) a' w' hB2 hm
        rw [hd] at this
        exact this) hw2
end
theorem wp_region_mixT {P : Program} (C : World → Prop) (perm : PermT) {id : Nat} {Q : Exit → Act → World → Prop} {a : Act} {w : World} {l : List Oper} (hm : P.follows .mixedOrders = true)
    (hB : (Region.noSelect l.toArray && decide (perm.depth = l.length) && permBT .any l.toArray perm (Array.replicate l.length false)) = true)
    (h : mixT P l.toArray C Q (pickT l.toArray perm) a w.drew) : (Code.region id l.toArray true).wp P Q a w := by
  simp only [Bool.and_eq_true, decide_eq_true_eq] at hB
  obtain ⟨⟨hs, hl⟩, hp⟩ := hB
  refine Code.wp_mono OnlyN.imp (wp_region_any hm (wpAny_of_anyC (C := C) _ _ _ _ ?_))
  have := anyC_of_mixT (C := C) (Q := Q) hs perm (Array.replicate l.length false) a w.drew hp h
  rw [hl] at this
  simpa using this
section
variable {P : Program} {ops : Array Oper} {C : World → Prop} {Q : Exit → Act → World → Prop} {o p : Oper} {r s : MixT} {a : Act} {w : World}
theorem mixT_nil (hC : C w) (h : Q .normal a w) : mixT P ops C Q .nil a w := ⟨hC, h⟩
theorem mixT_first (h : ∃ A1, (∀ m : Held C, wpQuiet P ops (fun w' => ∃ _ : Unit, w' = HeldW m) (fun a' => a' = A1) [o] a) ∧ C w ∧ mixT P ops C Q r A1 w) : mixT P ops C Q (.first o r) a w := by
  obtain ⟨A1, h1, h2, h3⟩ := h
  exact ⟨A1, fun m => still_of_quiet (h1 m), h2, h3⟩
theorem mixT_forced (hC : C w) (h : wpList P ops (OnlyN fun _ a' w' => mixT P ops C Q r a' w') [o] a w) : mixT P ops C Q (.forced o r) a w := ⟨hC, h⟩
theorem mixT_two (hC : C w) (h1 : wpList P ops (OnlyN fun _ a' w' => mixT P ops C Q r a' w') [o] a w) (h2 : wpList P ops (OnlyN fun _ a' w' => mixT P ops C Q s a' w') [p] a w) : mixT P ops C Q (.two o r p s) a w := ⟨hC, h1, h2⟩
end
end Sw
/- Several texts, joined for the limit of sixty files; each one opens with its own comment. -/
/- region's take: the nodes of a path, by a side. -/
set_option linter.unusedVariables false
set_option linter.unusedSimpArgs false
namespace Go.Proofs.YtnpehjgnplaabaaGreatDoor
open Go Go.RowKit
open Sw
theorem TreeAt.turnB {F : Nat → Prop} {W W' : World} {bt bm : Nat} {X : List NE} (h : TreeAt W bt bm X) (hk : TurnB F W W') (hF : ∀ i t cs, F i → ¬ Blk W i t cs) : TreeAt W' bt bm X := by
  refine ⟨h.box.turnB hk (fun hf => hF _ _ _ hf h.box), ?_⟩
  obtain ⟨v, hb, ho⟩ := h.map.row
  exact ⟨⟨v, hb.turnB hk (fun hf => hF _ _ _ hf hb), own_sameB ho (fun g hg => by
    obtain ⟨cur, hc⟩ := own_blkB ho hg
    exact hk.block g hc.lt (fun hf => hF _ _ _ hf hc))⟩, h.map.up, h.map.ok⟩
def mapsF (m0 m1 : Nat) (i : Nat) : Prop := i = m0 ∨ i = m1
set_option maxRecDepth 100000 in
set_option maxHeartbeats 8000000 in
theorem regTake_any (w : World) (gs bt bm bt2 bm2 m0 m1 mc N : Nat) (policy : Int) (pv gv : Value) (f0 f1 : ByteArray → Option Value) (xs ys : List NE) (q : ByteArray) (side : Int)
    (hbox : Blk w gs 76 #[.pointer (some ⟨bt, 0, none⟩), .pointer (some ⟨bt2, 0, none⟩), .int .i64 policy, pv, .map (some m0), .map (some m1), .map (some mc), gv])
    (hA : MapV w Tryz.prog 9 litT okT m0 N f0) (hB : MapV w Tryz.prog 9 litT okT m1 N f1) (hne : m0 ≠ m1) (hN : N + 1 < maxLen) (hT : TreeAt w bt bm xs) (hT2 : TreeAt w bt2 bm2 ys) (hxl : xs.length ≤ 1000000) (hyl : ys.length ≤ 1000000) (hq : q.size ≤ 90000) :
    Calls Tryz.prog 57 #[.pointer (some ⟨gs, 0, none⟩), .string q, .int .i64 side] w fun e w' => e = .returned (.tuple #[]) ∧ MapV w' Tryz.prog 9 litT okT m0 (N + 1) (updV f0 q (.agg (chosenN xs ys side q 0).left.c)) ∧ MapV w' Tryz.prog 9 litT okT m1 (N + 1) (updV f1 q (.agg (chosenN xs ys side q 0).right.c)) ∧ TurnB (mapsF m0 m1) w w' := by
  have hqk : okT q := Nat.le_trans hq (by unfold maxLen; omega)
  have hFF : ∀ i t cs, mapsF m0 m1 i → ¬ Blk w i t cs := fun i t cs hi => by
    rcases hi with rfl | rfl
    · exact map_noblk hA
    · exact map_noblk hB
  have hg0 : gs ≠ m0 := fun e => map_noblk hA (e ▸ hbox)
  have hg1 : gs ≠ m1 := fun e => map_noblk hB (e ▸ hbox)
  obtain ⟨nx, hnx⟩ : ∃ n, getT xs q = n := ⟨_, rfl⟩
  obtain ⟨ny, hny⟩ : ∃ n, getT ys q = n := ⟨_, rfl⟩
  obtain ⟨vA, hvA⟩ : ∃ v, (if side = 2 then ny else nx) = v := ⟨_, rfl⟩
  obtain ⟨vB, hvB⟩ : ∃ v, (if side = 1 then nx else ny) = v := ⟨_, rfl⟩
  have hch : chosenN xs ys side q 0 = ⟨q, vA, vB, 0⟩ := by unfold chosenN; rw [hnx, hny, hvA, hvB]
  rw [hch]
  simp only
  have HG1 := Lib.hid (fun W (h : TreeAt W bt bm xs) => treeGet_any W bt bm xs q h hxl hq)
  have HG2 := Lib.hid (fun W (h : TreeAt W bt2 bm2 ys) => treeGet_any W bt2 bm2 ys q h hyl hq)
  rw [hnx] at HG1
  rw [hny] at HG2
  have H0 := Lib.hid (And.intro hbox (And.intro hA (And.intro hB (And.intro hT hT2))))
  have HF := Lib.hid (And.intro hFF (And.intro hg0 (And.intro hg1 (And.intro hne hqk))))
  obtain ⟨xa, xb, xc, xd⟩ := nx
  obtain ⟨ya, yb, yc, yd⟩ := ny
  have HV := Lib.hid (And.intro hvA hvB)
  clear hbox hA hB hT hT2 hFF hg0 hg1 hch hnx hny hvA hvB
  simp only [Nd.c] at HG1 HG2
  go_enter Tryz.func57, Tryz.ntmps57
  go_wp2_with fail
  go_loopw [8] (fun iv wr => ∃ i : Nat, i ≤ 2 ∧ iv = .int .i64 i ∧ TurnB (mapsF m0 m1) w wr ∧ MapV wr Tryz.prog 9 litT okT m0 (N + 1) (if 1 ≤ i then updV f0 q (.agg vA.c) else f0) ∧ MapV wr Tryz.prog 9 litT okT m1 (N + 1) (if 2 ≤ i then updV f1 q (.agg vB.c) else f1) ∧ (i = 0 → MapV wr Tryz.prog 9 litT okT m0 N f0) ∧ (i ≤ 1 → MapV wr Tryz.prog 9 litT okT m1 N f1)) (fun iv _ => 2 - (intOf iv).toNat)
  case atStart => exact ⟨0, by omega, rfl, TurnB.refl _ _, H0.out.2.1.mono (by omega), H0.out.2.2.1.mono (by omega), fun _ => H0.out.2.1, fun _ => H0.out.2.2.1⟩
  case round =>
    obtain ⟨i, hi, rfl, htn, hma, hmb, hm0, hm1⟩ := hrel
    have hbx := H0.out.1.turnB htn (fun hf => hf.elim HF.out.2.1 HF.out.2.2.1)
    have HTX := Lib.hid (And.intro (H0.out.2.2.2.1.turnB htn HF.out.1) (H0.out.2.2.2.2.turnB htn HF.out.1))
    have hlt := hbx.lt
    have z0 := hbx.cell 0
    have z1 := hbx.cell 1
    have z4 := hbx.cell 4
    have z5 := hbx.cell 5
    simp only [List.getElem?_toArray, List.getElem?_cons_succ, List.getElem?_cons_zero] at z0 z1 z4 z5
    have k0 : ∀ m : Held (Aft wr), (HeldW m).cell? ⟨gs, 0, none⟩ = some (.pointer (some ⟨bt, 0, none⟩)) := fun m => (Aft.cell m hlt).trans z0
    have k1 : ∀ m : Held (Aft wr), (HeldW m).cell? ⟨gs, 1, none⟩ = some (.pointer (some ⟨bt2, 0, none⟩)) := fun m => (Aft.cell m hlt).trans z1
    have k4 : ∀ m : Held (Aft wr), (HeldW m).cell? ⟨gs, 4, none⟩ = some (.map (some m0)) := fun m => (Aft.cell m hlt).trans z4
    have k5 : ∀ m : Held (Aft wr), (HeldW m).cell? ⟨gs, 5, none⟩ = some (.map (some m1)) := fun m => (Aft.cell m hlt).trans z5
    have HR := Lib.hid (And.intro htn (And.intro hma (And.intro hmb (And.intro hm0 hm1))))
    clear htn hma hmb hm0 hm1 hbx hlt z0 z1 z4 z5
    by_cases hi2 : i = 2
    · subst hi2
      have HX := Lib.hid HR.out
      go_wp2_with fail
      go_end0
      exact ⟨rfl, by simpa using HX.out.2.1, by simpa using HX.out.2.2.1, HX.out.1⟩
    · have hi1 : (i : Int) < 2 := by omega
      have HC0 := Lib.hid (Aft.start wr)
      by_cases hi0 : i = 0
      · subst hi0
        by_cases hs2 : side = 2
        · subst hs2
          go_upto_region 9 with fail
          refine wp_region_mixD (Aft wr) [(0, true), (1, true), (2, true), (3, true), (4, true), (5, true), (6, true), (7, true), (8, true), (9, true), (10, true), (11, true), (12, true), (13, true), (14, false), (15, false)] (by kernel_rfl) (by kernel_rfl) ?_
          simp only [pickP, List.filterMap_cons, List.filterMap_nil, List.getElem?_toArray, List.getElem?_cons_succ, List.getElem?_cons_zero, Option.map_some]
          repeat (apply mixD_first; apply Exists.intro; refine ⟨fun m => ?_, HC0.out, ?_⟩; · (go_big_quiet_step (fail); exact wpQuiet_nil rfl))
          refine mixD_forced HC0.out ?_
          go_wp2_with fail
          refine (HG2.out _ (HTX.out.2.below HC0.out)).mono ?_
          rintro e w2 ⟨rfl, hb2⟩
          have hC2 : Aft wr w2 := Aft.keep _ _ HC0.out hb2
          have HC2 := Lib.hid hC2
          have HM := Lib.hid ((HR.out.2.2.2.1 (by first | rfl | trivial)).below hC2 (HR.out.2.2.2.1 (by first | rfl | trivial)).lt)
          clear hb2 hC2 k0 k1 k4 k5
          go_wp2_with fail
          show mixD _ _ _ _ _ _ _
          refine mixD_forced HC2.out ?_
          go_wp2_with (at_mapUpdate; refine wpList_storeV rfl _ _ _ 73 rfl 57 (keyStr Tryz.underlying9) Tryz.underlying73 m0 N f0 rfl HM.out (by omega) q rfl HF.out.2.2.2.2 _ rfl ?_; intro w4 hm4 hg4)
          have HB := Lib.hid (And.intro hm4 hg4); clear hm4 hg4
          show mixD _ _ _ _ _ _ _
          refine mixD_nil ?_
          go_wp2_with fail
          go_roundw
          case rel =>
            have htb : TurnB (mapsF m0 m1) w w4 := (HR.out.1.below HC2.out).grown HB.out.2 (fun g hg => by cases hg; exact .inl (.inl rfl))
            have hm1b : MapV w4 Tryz.prog 9 litT okT m1 N f1 := ((HR.out.2.2.2.2 (by omega)).below HC2.out (HR.out.2.2.2.2 (by omega)).lt).kept HB.out.2 (by simpa using HF.out.2.2.2.1.symm)
            exact ⟨1, by omega, by go_num, htb, by rw [if_pos (by omega), ← HV.out.1]; simp only [if_true, Int.reduceEq, if_false, Nd.c]; exact HB.out.1, by rw [if_neg (by omega)]; exact hm1b.mono (by omega), fun h => (by omega), fun _ => hm1b⟩
          case measure => simp [intOf]
        · have t2 : (side == 2) = false := by simpa using hs2
          by_cases hs1 : side = 1
          · subst hs1
            go_upto_region 9 with fail
            refine wp_region_mixD (Aft wr) [(0, true), (1, true), (2, true), (3, true), (4, true), (5, true), (6, true), (7, true), (8, true), (9, true), (10, true), (11, true), (12, true), (13, true), (14, false), (15, false)] (by kernel_rfl) (by kernel_rfl) ?_
            simp only [pickP, List.filterMap_cons, List.filterMap_nil, List.getElem?_toArray, List.getElem?_cons_succ, List.getElem?_cons_zero, Option.map_some]
            repeat (apply mixD_first; apply Exists.intro; refine ⟨fun m => ?_, HC0.out, ?_⟩; · (go_big_quiet_step (fail); exact wpQuiet_nil rfl))
            refine mixD_forced HC0.out ?_
            go_wp2_with fail
            refine (HG1.out _ (HTX.out.1.below HC0.out)).mono ?_
            rintro e w2 ⟨rfl, hb2⟩
            have hC2 : Aft wr w2 := Aft.keep _ _ HC0.out hb2
            have HC2 := Lib.hid hC2
            have HM := Lib.hid ((HR.out.2.2.2.1 (by first | rfl | trivial)).below hC2 (HR.out.2.2.2.1 (by first | rfl | trivial)).lt)
            clear hb2 hC2 k0 k1 k4 k5
            go_wp2_with fail
            show mixD _ _ _ _ _ _ _
            refine mixD_forced HC2.out ?_
            go_wp2_with (at_mapUpdate; refine wpList_storeV rfl _ _ _ 73 rfl 57 (keyStr Tryz.underlying9) Tryz.underlying73 m0 N f0 rfl HM.out (by omega) q rfl HF.out.2.2.2.2 _ rfl ?_; intro w4 hm4 hg4)
            have HB := Lib.hid (And.intro hm4 hg4); clear hm4 hg4
            show mixD _ _ _ _ _ _ _
            refine mixD_nil ?_
            go_wp2_with fail
            go_roundw
            case rel =>
              have htb : TurnB (mapsF m0 m1) w w4 := (HR.out.1.below HC2.out).grown HB.out.2 (fun g hg => by cases hg; exact .inl (.inl rfl))
              have hm1b : MapV w4 Tryz.prog 9 litT okT m1 N f1 := ((HR.out.2.2.2.2 (by omega)).below HC2.out (HR.out.2.2.2.2 (by omega)).lt).kept HB.out.2 (by simpa using HF.out.2.2.2.1.symm)
              exact ⟨1, by omega, by go_num, htb, by rw [if_pos (by omega), ← HV.out.1]; simp only [Int.reduceEq, if_false, if_true, Nd.c]; exact HB.out.1, by rw [if_neg (by omega)]; exact hm1b.mono (by omega), fun h => (by omega), fun _ => hm1b⟩
            case measure => simp [intOf]
          · have t1 : (side == 1) = false := by simpa using hs1
            have HS := Lib.hid hs2
            clear hs1 hs2
            go_upto_region 9 with fail
            refine wp_region_mixD (Aft wr) [(0, true), (1, true), (2, true), (3, true), (4, true), (5, true), (6, true), (7, true), (8, true), (9, true), (10, true), (11, true), (12, true), (13, true), (14, false), (15, false)] (by kernel_rfl) (by kernel_rfl) ?_
            simp only [pickP, List.filterMap_cons, List.filterMap_nil, List.getElem?_toArray, List.getElem?_cons_succ, List.getElem?_cons_zero, Option.map_some]
            repeat (apply mixD_first; apply Exists.intro; refine ⟨fun m => ?_, HC0.out, ?_⟩; · (go_big_quiet_step (fail); exact wpQuiet_nil rfl))
            refine mixD_forced HC0.out ?_
            go_wp2_with fail
            refine (HG1.out _ (HTX.out.1.below HC0.out)).mono ?_
            rintro e w2 ⟨rfl, hb2⟩
            have hC2 : Aft wr w2 := Aft.keep _ _ HC0.out hb2
            have HC2 := Lib.hid hC2
            have HM := Lib.hid ((HR.out.2.2.2.1 (by first | rfl | trivial)).below hC2 (HR.out.2.2.2.1 (by first | rfl | trivial)).lt)
            clear hb2 hC2 k0 k1 k4 k5
            go_wp2_with fail
            show mixD _ _ _ _ _ _ _
            refine mixD_forced HC2.out ?_
            go_wp2_with (at_mapUpdate; refine wpList_storeV rfl _ _ _ 73 rfl 57 (keyStr Tryz.underlying9) Tryz.underlying73 m0 N f0 rfl HM.out (by omega) q rfl HF.out.2.2.2.2 _ rfl ?_; intro w4 hm4 hg4)
            have HB := Lib.hid (And.intro hm4 hg4); clear hm4 hg4
            show mixD _ _ _ _ _ _ _
            refine mixD_nil ?_
            go_wp2_with fail
            go_roundw
            case rel =>
              have htb : TurnB (mapsF m0 m1) w w4 := (HR.out.1.below HC2.out).grown HB.out.2 (fun g hg => by cases hg; exact .inl (.inl rfl))
              have hm1b : MapV w4 Tryz.prog 9 litT okT m1 N f1 := ((HR.out.2.2.2.2 (by omega)).below HC2.out (HR.out.2.2.2.2 (by omega)).lt).kept HB.out.2 (by simpa using HF.out.2.2.2.1.symm)
              exact ⟨1, by omega, by go_num, htb, by rw [if_pos (by omega), ← HV.out.1]; rw [if_neg HS.out]; simp only [Nd.c]; exact HB.out.1, by rw [if_neg (by omega)]; exact hm1b.mono (by omega), fun h => (by omega), fun _ => hm1b⟩
            case measure => simp [intOf]
      · obtain rfl : i = 1 := by omega
        by_cases hs2 : side = 2
        · subst hs2
          go_upto_region 9 with fail
          refine wp_region_mixD (Aft wr) [(0, true), (1, true), (2, true), (3, true), (4, true), (5, true), (6, true), (7, true), (8, true), (9, true), (10, true), (11, true), (12, true), (13, true), (14, false), (15, false)] (by kernel_rfl) (by kernel_rfl) ?_
          simp only [pickP, List.filterMap_cons, List.filterMap_nil, List.getElem?_toArray, List.getElem?_cons_succ, List.getElem?_cons_zero, Option.map_some]
          repeat (apply mixD_first; apply Exists.intro; refine ⟨fun m => ?_, HC0.out, ?_⟩; · (go_big_quiet_step (fail); exact wpQuiet_nil rfl))
          refine mixD_forced HC0.out ?_
          go_wp2_with fail
          refine (HG2.out _ (HTX.out.2.below HC0.out)).mono ?_
          rintro e w2 ⟨rfl, hb2⟩
          have hC2 : Aft wr w2 := Aft.keep _ _ HC0.out hb2
          have HC2 := Lib.hid hC2
          have HM := Lib.hid ((HR.out.2.2.2.2 (by omega)).below hC2 (HR.out.2.2.2.2 (by omega)).lt)
          clear hb2 hC2 k0 k1 k4 k5
          go_wp2_with fail
          show mixD _ _ _ _ _ _ _
          refine mixD_forced HC2.out ?_
          go_wp2_with (at_mapUpdate; refine wpList_storeV rfl _ _ _ 73 rfl 57 (keyStr Tryz.underlying9) Tryz.underlying73 m1 N f1 rfl HM.out (by omega) q rfl HF.out.2.2.2.2 _ rfl ?_; intro w4 hm4 hg4)
          have HB := Lib.hid (And.intro hm4 hg4); clear hm4 hg4
          show mixD _ _ _ _ _ _ _
          refine mixD_nil ?_
          go_wp2_with fail
          go_roundw
          case rel =>
            have htb : TurnB (mapsF m0 m1) w w4 := (HR.out.1.below HC2.out).grown HB.out.2 (fun g hg => by cases hg; exact .inl (.inr rfl))
            have hm0a := HR.out.2.1
            rw [if_pos (by omega)] at hm0a
            exact ⟨2, by omega, by go_num, htb, by rw [if_pos (by omega)]; exact (hm0a.below HC2.out hm0a.lt).kept HB.out.2 (by simpa using HF.out.2.2.2.1), by rw [if_pos (by omega), ← HV.out.2]; simp only [if_true, Int.reduceEq, if_false, Nd.c]; exact HB.out.1, fun h => (by omega), fun h => (by omega)⟩
          case measure => simp [intOf]
        · have t2 : (side == 2) = false := by simpa using hs2
          by_cases hs1 : side = 1
          · subst hs1
            go_upto_region 9 with fail
            refine wp_region_mixD (Aft wr) [(0, true), (1, true), (2, true), (3, true), (4, true), (5, true), (6, true), (7, true), (8, true), (9, true), (10, true), (11, true), (12, true), (13, true), (14, false), (15, false)] (by kernel_rfl) (by kernel_rfl) ?_
            simp only [pickP, List.filterMap_cons, List.filterMap_nil, List.getElem?_toArray, List.getElem?_cons_succ, List.getElem?_cons_zero, Option.map_some]
            repeat (apply mixD_first; apply Exists.intro; refine ⟨fun m => ?_, HC0.out, ?_⟩; · (go_big_quiet_step (fail); exact wpQuiet_nil rfl))
            refine mixD_forced HC0.out ?_
            go_wp2_with fail
            refine (HG1.out _ (HTX.out.1.below HC0.out)).mono ?_
            rintro e w2 ⟨rfl, hb2⟩
            have hC2 : Aft wr w2 := Aft.keep _ _ HC0.out hb2
            have HC2 := Lib.hid hC2
            have HM := Lib.hid ((HR.out.2.2.2.2 (by omega)).below hC2 (HR.out.2.2.2.2 (by omega)).lt)
            clear hb2 hC2 k0 k1 k4 k5
            go_wp2_with fail
            show mixD _ _ _ _ _ _ _
            refine mixD_forced HC2.out ?_
            go_wp2_with (at_mapUpdate; refine wpList_storeV rfl _ _ _ 73 rfl 57 (keyStr Tryz.underlying9) Tryz.underlying73 m1 N f1 rfl HM.out (by omega) q rfl HF.out.2.2.2.2 _ rfl ?_; intro w4 hm4 hg4)
            have HB := Lib.hid (And.intro hm4 hg4); clear hm4 hg4
            show mixD _ _ _ _ _ _ _
            refine mixD_nil ?_
            go_wp2_with fail
            go_roundw
            case rel =>
              have htb : TurnB (mapsF m0 m1) w w4 := (HR.out.1.below HC2.out).grown HB.out.2 (fun g hg => by cases hg; exact .inl (.inr rfl))
              have hm0a := HR.out.2.1
              rw [if_pos (by omega)] at hm0a
              exact ⟨2, by omega, by go_num, htb, by rw [if_pos (by omega)]; exact (hm0a.below HC2.out hm0a.lt).kept HB.out.2 (by simpa using HF.out.2.2.2.1), by rw [if_pos (by omega), ← HV.out.2]; simp only [Int.reduceEq, if_false, if_true, Nd.c]; exact HB.out.1, fun h => (by omega), fun h => (by omega)⟩
            case measure => simp [intOf]
          · have t1 : (side == 1) = false := by simpa using hs1
            have HS := Lib.hid hs1
            clear hs1 hs2
            go_upto_region 9 with fail
            refine wp_region_mixD (Aft wr) [(0, true), (1, true), (2, true), (3, true), (4, true), (5, true), (6, true), (7, true), (8, true), (9, true), (10, true), (11, true), (12, true), (13, true), (14, false), (15, false)] (by kernel_rfl) (by kernel_rfl) ?_
            simp only [pickP, List.filterMap_cons, List.filterMap_nil, List.getElem?_toArray, List.getElem?_cons_succ, List.getElem?_cons_zero, Option.map_some]
            repeat (apply mixD_first; apply Exists.intro; refine ⟨fun m => ?_, HC0.out, ?_⟩; · (go_big_quiet_step (fail); exact wpQuiet_nil rfl))
            refine mixD_forced HC0.out ?_
            go_wp2_with fail
            refine (HG2.out _ (HTX.out.2.below HC0.out)).mono ?_
            rintro e w2 ⟨rfl, hb2⟩
            have hC2 : Aft wr w2 := Aft.keep _ _ HC0.out hb2
            have HC2 := Lib.hid hC2
            have HM := Lib.hid ((HR.out.2.2.2.2 (by omega)).below hC2 (HR.out.2.2.2.2 (by omega)).lt)
            clear hb2 hC2 k0 k1 k4 k5
            go_wp2_with fail
            show mixD _ _ _ _ _ _ _
            refine mixD_forced HC2.out ?_
            go_wp2_with (at_mapUpdate; refine wpList_storeV rfl _ _ _ 73 rfl 57 (keyStr Tryz.underlying9) Tryz.underlying73 m1 N f1 rfl HM.out (by omega) q rfl HF.out.2.2.2.2 _ rfl ?_; intro w4 hm4 hg4)
            have HB := Lib.hid (And.intro hm4 hg4); clear hm4 hg4
            show mixD _ _ _ _ _ _ _
            refine mixD_nil ?_
            go_wp2_with fail
            go_roundw
            case rel =>
              have htb : TurnB (mapsF m0 m1) w w4 := (HR.out.1.below HC2.out).grown HB.out.2 (fun g hg => by cases hg; exact .inl (.inr rfl))
              have hm0a := HR.out.2.1
              rw [if_pos (by omega)] at hm0a
              exact ⟨2, by omega, by go_num, htb, by rw [if_pos (by omega)]; exact (hm0a.below HC2.out hm0a.lt).kept HB.out.2 (by simpa using HF.out.2.2.2.1), by rw [if_pos (by omega), ← HV.out.2]; rw [if_neg HS.out]; simp only [Nd.c]; exact HB.out.1, fun h => (by omega), fun h => (by omega)⟩
            case measure => simp [intOf]
end Go.Proofs.YtnpehjgnplaabaaGreatDoor
/- slices.Clone of a row of string: the same elements, in memory of the call's own. -/
set_option linter.unusedVariables false
set_option linter.unusedSimpArgs false
namespace Go.Proofs.YtnpehjgnplaabaaGreatDoor
open Go Go.RowKit
open Sw
theorem infoEST : (Tryz.prog.info? 9).map (fun i => (i.zero, i.size, i.bytes)) = some (some (.string ⟨#[]⟩), 1, 16) := by kernel_rfl
set_option maxRecDepth 100000 in
set_option maxHeartbeats 2000000 in
theorem slCloneST_any {α : Type} (E : α → List Value) (hE : ∀ x, (E x).length = 1) (hE1 : ∀ x, ∀ u ∈ E x, u.oneCell' = true) (w : World) (v : Value) (l : List α) (h : SlV w 1 E v l) (hl : l.length ≤ 1000000) :
    Calls Tryz.prog 95 #[v] w fun e w' => ∃ v', e = .returned v' ∧ w'.ownsRow w.heap.size 9 1 v' l.length (l.flatMap E) ∧ Below w.heap.size w w' := by
  obtain ⟨A, c, rfl, hc1, hc2, hsl⟩ := h
  cases A with
  | none =>
    have h0 : l = [] := by
      cases l with
      | nil => rfl
      | cons a l => obtain ⟨b, off, h, _⟩ := hsl (by simp); cases h
    subst h0
    have hno := World.ownsRow_nil w w.heap.size 9 1
    have HN := Lib.hid hno; clear hno hsl
    have hnl : ∀ W n c, (binOp .eql 34 (.slice none n c) (.slice none 0 0)).run Tryz.prog W = .ok (.bool true) W := fun W n c => Lib.run_eql_slice_nil W 34 9 none n c 0 0 Tryz.underlying34
    go_enter Tryz.func95, Tryz.ntmps95
    go_wp2_with fail
    go_ret
    exact ⟨_, rfl, HN.out, Below.refl _ _⟩
  | some a =>
    obtain ⟨i0, hi, hz0, hz1, hz2⟩ := info_parts infoEST
    have hlen : (l.flatMap E).length = l.length * 1 := flat_len hE l
    have hone : ∀ u ∈ l.flatMap E, u.oneCell' = true := fun u hu => by
      rw [List.mem_flatMap] at hu
      obtain ⟨x, _, hx⟩ := hu
      exact hE1 x u hx
    have hnews : ∀ j u, (l.flatMap E)[j]? = some u → w.cell? (a.add j) = some u := fun j u hj => by
      have hjl := (List.getElem?_eq_some_iff.1 hj).1
      rw [hlen] at hjl
      obtain ⟨b, off, hA, _, hcs⟩ := hsl (by omega)
      rw [Option.some.inj hA, add_mk]
      have hq : j / 1 < l.length := by omega
      have hr : j % 1 < 1 := Nat.mod_lt _ (by omega)
      have hd : j / 1 * 1 + j % 1 = j := by omega
      have h1 := flat_get hE l (j / 1) hq (j % 1) hr
      rw [hd, hj] at h1
      have h2 := hcs (j / 1) hq (j % 1) hr
      rw [Nat.add_assoc, hd] at h2
      rw [h2, ← h1]
    have hnews1 : ∀ (o : Obj) j u, (l.flatMap E)[j]? = some u → (w.alloc o).cell? (a.add j) = some u := fun o j u hj => by
      have h1 := hnews j u hj
      have hlt := World.block_lt_of_cell? w _ h1
      rw [← h1]
      exact ((Below.refl w.heap.size w).alloc (Nat.le_refl _) o).cell hlt
    have hown := World.ownsRow_made (e := 9) (size := 1) (base := w.heap.size) w #[] 0 (Nat.le_refl _) (by decide) (by simp)
    have hbe : Below w.heap.size w (w.alloc (.cells #[] 9)) := (Below.refl _ _).alloc (Nat.le_refl _) _
    have HH := Lib.hid (And.intro hown hbe); clear hown hbe
    have HL := Lib.hid hlen; clear hlen
    have HO := Lib.hid hone; clear hone
    have HW := Lib.hid hnews1; clear hnews1 hnews
    have HI := Lib.hid (And.intro hi (And.intro hz0 (And.intro hz1 hz2))); clear hi hz0 hz1 hz2
    generalize l.flatMap E = xs at *
    generalize l.length = n at *
    have hnl : ∀ W n c, (binOp .eql 34 (.slice (some a) n c) (.slice none 0 0)).run Tryz.prog W = .ok (.bool false) W := fun W n c => Lib.run_eql_slice_nil W 34 9 (some a) n c 0 0 Tryz.underlying34
    go_enter Tryz.func95, Tryz.ntmps95
    go_wp2_with (at_builtin; refine wpList_append_own _ rfl _ _ 34 rfl w.heap.size 9 i0 (.string ⟨#[]⟩) 1 16 Tryz.underlying34 HI.out.1 HI.out.2.1 HI.out.2.2.1 HI.out.2.2.2 rfl (by decide) _ _ _ rfl HH.out.1 a n c xs rfl HL.out (HW.out _) HO.out (by unfold maxLen; omega) (by omega) (by simp) ?_; intro v' w1 hown1 hgrow1 hnil1)
    have HP := Lib.hid (And.intro hown1 hgrow1); clear hown1 hgrow1 hnil1
    go_wp2_with fail
    go_ret
    refine ⟨_, rfl, ?_, HH.out.2.grown HP.out.2 (by simp) (fun k hk => ?_)⟩
    · have := HP.out.1
      simpa using this
    · have : w.heap.size = k := Option.some.inj hk
      omega
end Go.Proofs.YtnpehjgnplaabaaGreatDoor
/- The contract of swingleref01.Same: are two slices of texts alike? -/
set_option linter.unusedVariables false
set_option linter.unusedSimpArgs false
namespace Go.Proofs.YtnpehjgnplaabaaGreatDoor
open Go.RowKit
open Sw
/-- a text as it lies -/
def sE (t : ByteArray) : List Value := [.string t]
end Go.Proofs.YtnpehjgnplaabaaGreatDoor
