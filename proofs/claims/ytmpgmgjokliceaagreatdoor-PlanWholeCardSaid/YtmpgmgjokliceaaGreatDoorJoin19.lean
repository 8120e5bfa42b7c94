/- Several texts, joined for the limit of sixty files; each one opens with its own comment. -/
import Derived.Test.YtmpgmgjokliceaaGreatDoorJoin18
import Derived.Test.YtmpgmgjokliceaaGreatDoorJoin16
import Derived.Test.YtmpgmgjokliceaaGreatDoorJoin8
import Derived.Test.YtmpgmgjokliceaaGreatDoorJoin17
/- tree.Items. -/
set_option linter.unusedVariables false
set_option linter.unusedSimpArgs false
namespace Go.Proofs.YtmpgmgjokliceaaGreatDoor
open Go Go.RowKit Go.Shelf
open Sw
attribute [local go_sem] Oper.semAt_some
/-- behind some words: the row in the box holds them, and the iterator lies as it lay -/
def ItI (T gb : Nat) (v : Value) (xs : List NE) (pre : List NE) (W : World) : Prop := gb < W.heap.size ∧ (∃ o, Blk W T 22 #[o] ∧ OwnIt W T o pre) ∧ Blk W gb 188 #[v] ∧ Lies W 197 5 eCSN v xs
theorem ItI.own (T gb : Nat) (v : Value) (xs : List NE) : Own (ItI T gb v xs) := fun _ A B row hs hg hr => ⟨Nat.lt_of_lt_of_le hs.1 hg.size, by obtain ⟨o, h1, h2⟩ := hs.2.1; exact ⟨o, blk_ownF h1 hg hr, own_ownF h2 hg hr⟩, blk_ownF hs.2.2.1 hg hr, hs.2.2.2.ownF hg hr⟩
theorem ItI.below {T gb : Nat} {v : Value} {xs pre : List NE} {A B : World} (hs : ItI T gb v xs pre A) (hb : Below A.heap.size A B) : ItI T gb v xs pre B := ⟨Nat.lt_of_lt_of_le hs.1 hb.size, by obtain ⟨o, h1, h2⟩ := hs.2.1; exact ⟨o, h1.below hb h1.lt, h2.below hb⟩, hs.2.2.1.below hb hs.2.2.1.lt, hs.2.2.2.below hb⟩
set_option maxRecDepth 100000 in
set_option maxHeartbeats 4000000 in
theorem treeItems_any (w : World) (bt bm : Nat) (xs : List NE) (h : TreeAt w bt bm xs) (hn : xs.length ≤ 1000) :
    Calls Tryz.prog 22 #[.pointer (some ⟨bt, 0, none⟩)] w fun e w' => ∃ r, e = .returned r ∧ OwnIt w' w.heap.size r xs ∧ Below w.heap.size w w' := by
  have b0 := Blk.new w 22 #[.slice none 0 0]
  have hB : Below w.heap.size w (w.alloc (.cells #[.slice none 0 0] 22)) := (Below.refl _ w).alloc (Nat.le_refl _) _
  have hT := h.below hB
  clear h
  refine callsIn_wide.1 (?_ : CallsIn Fence.wide 9 _ _ _ _ _)
  refine callsIn_of_wp_marks Tryz.func22 rfl trivial ?_ rfl
  simp only [Tryz.ntmps22, List.size_toArray, List.length_cons, List.length_nil, Nat.reduceAdd, Nat.reduceSub, Array.replicate_succ, Array.replicate_zero, List.push_toArray, List.append_toArray, List.nil_append, List.cons_append]
  have H0 := Lib.hid (And.intro b0 (And.intro hB hT)); clear b0 hB hT
  gi_wp2
  obtain ⟨w1, hw1⟩ : ∃ w1, w.alloc (.cells #[.slice none 0 0] 22) = w1 := ⟨_, rfl⟩
  rw [hw1] at H0
  rw [hw1]
  clear hw1
  refine ⟨trivial, (callsIn_wide.2 (treeAll_any w1 bt bm xs H0.out.2.2)).mono ?_⟩
  rintro e w2 ⟨gb, v, rfl, hgb, hL, hge, hvb, hb2⟩
  have B0 := H0.out.1.below hb2 H0.out.1.lt
  have hTgb : w.heap.size ≠ gb := by have := H0.out.1.lt; omega
  have HNE := Lib.hid hTgb; clear hTgb
  have hBw := H0.out.2.1.trans (hb2.mono H0.out.2.1.size)
  have hz2 : w.heap.size < w2.heap.size := B0.lt
  clear hb2 hge
  gi_wp2
  obtain ⟨T, hTe⟩ : ∃ T, T = w.heap.size := ⟨_, rfl⟩
  rw [← hTe] at B0 hBw hz2 HNE ⊢
  have HTE := Lib.hid hTe; clear hTe H0
  have hgl := hgb.lt
  refine wpIn_rangeFunc_tellW (Mine := fun _ => False) (fun _ h => h.elim) rfl (by omega) (gf := 205) (lb := #[.pointer (some ⟨gb, 0, none⟩)]) rfl trivial (enters_of Tryz.func205 (by kernel_rfl) rfl)
    (toldSN_tells 8 (by omega) gb v xs w2 hgb hL (by omega)) KeepIt.trans (keepIt_b hgl hvb) (Below.refl _ _) (fun _ => rfl)
    (fun pre W => ItI T gb v xs pre W ∧ Below T w W)
    (fun c pre W => False)
    (OwnM.of_none (OwnFrom.and (Own.from (ItI.own T gb v xs) _) (ownFrom_below (by have := HTE.out; omega) (by omega))))
    (fun c => OwnM.of_none (fun _ _ _ _ hs _ _ => hs.elim))
    ⟨⟨hgl, ⟨_, B0, World.ownsRow_nil _ _ _ _⟩, hgb, hL⟩, hBw⟩
    (fun x n₀ => { tmps := #[.pointer (some ⟨bt, 0, none⟩), undef, .pointer (some ⟨T, 0, none⟩), .string x.1, .pointer (some ⟨n₀, 0, none⟩), .pointer (some ⟨bt, 0, none⟩), .func (.func 205) #[] #[.pointer (some ⟨gb, 0, none⟩)], .string x.1, .agg x.2.c, undef, undef, undef, undef, undef, undef, undef], defers := [] }) (fun x W => W.alloc (.cells x.2.c 37))
    (fun x n₀ pre W => ItI T gb v xs pre W ∧ Below T w W ∧ Blk W n₀ 37 x.2.c) (fun x n₀ => OwnM.of_none (OwnFrom.and (Own.from (ItI.own T gb v xs) _) (OwnFrom.and (ownFrom_below (by have := HTE.out; omega) (by omega)) (Own.from (fun _ A B row hs hg hr => blk_ownF hs hg hr) _)))) ?made ?assign ?body ?done ?stop
  case assign =>
    rintro l ⟨q, kd, md, tm, dt⟩ n₀ W rfl K hK
    simp only [Nd.c] at hK ⊢
    gi_wp2
    exact hK
  case made =>
    rintro pre x W ⟨hI, hB⟩ hT
    have hba := (Below.refl W.heap.size W).alloc (Nat.le_refl _) (.cells x.2.c 37)
    obtain ⟨o, c0, _⟩ := hI.2.1
    refine ⟨⟨hI.below hba, hB.alloc (Nat.le_of_lt c0.lt) _, Blk.new _ _ _⟩, ?_, ?_⟩
    · exact keeps_belowF hba
    · exact .below hba hI.2.2.1.lt (fun g hg => by
        obtain ⟨r, hr⟩ := hT
        obtain ⟨A, c, rfl, _, _, hx⟩ := hI.2.2.2
        obtain ⟨g2, off, cur, rfl, hB, _⟩ := hx (by rw [← hr]; simp; omega)
        cases hg
        exact hB.lt)
  case body =>
    rintro l pre x n₀ W ⟨⟨hgl2, ⟨o, b1, ho⟩, hg, hL⟩, hB, hX⟩ hT
    have hx0 : 0 < xs.length := by obtain ⟨r, hr⟩ := hT; rw [← hr]; simp; omega
    have hpl : pre.length + 1 ≤ 1000 := by obtain ⟨r, hr⟩ := hT; have := congrArg List.length hr; simp at this; omega
    have x0 := hX.cell 0
    have x1 := hX.cell 1
    have x2 := hX.cell 2
    have x3 := hX.cell 3
    simp [Nd.c] at x0 x1 x2 x3
    have m1 := b1.cell 0
    have f1 := b1.frozen 0
    simp at m1
    obtain ⟨A3, c3, rfl, _, _, _⟩ := SlV_of_any ho
    have hTW := Nat.le_of_lt b1.lt
    have HH := Lib.hid (And.intro b1 (And.intro ho (And.intro hg (And.intro hL hB)))); clear b1 ho hg hL hB hX hT
    gi_wp2_with (gi_at_builtin; refine wpListIn_app rfl _ _ 22 rfl T 70 (.agg #[.string ⟨#[]⟩, .int .i64 0, .int .i64 0, .int .u32 0, .string ⟨#[]⟩]) 5 56 Tryz.underlying22 infoIt rfl (by decide) _ pre.length _ rfl (HH.out.2.1.alloc _) W.heap.size 1 #[.string x.1, .int .i64 x.2.kind, .int .i64 x.2.mode, .int .u32 x.2.time, .string x.2.data] 70 rfl (Blk.new _ _ _) rfl (by simp [Value.oneCell']) (by omega) (by decide) (by simp; omega) _ rfl ?_; intro g cap w5 hown1 hgrow1 hat hlt1; have hb5 := app_pre HH.out.1 HH.out.2.1 ((Below.refl _ _).alloc (Nat.le_refl _) _) hgrow1 (by decide); have c5 := hb5.cell 0; have f5 := hb5.frozen 0; simp at c5)
    have hA := app_body HH.out.1 HH.out.2.1 ((Below.refl _ _).alloc (Nat.le_refl _) _) hgrow1 hown1 (by omega) (Nat.le_refl _) (by decide)
    have hK := hA.keepIt HH.out.2.2.1 HH.out.2.2.2.1 hx0 (by decide) HNE.out.symm (by decide) (by decide)
    refine ⟨hA.keeps, hK, ⟨Nat.lt_of_lt_of_le hgl2 hA.below.size, ⟨_, hA.box, ?_⟩, hA.far _ _ _ HH.out.2.2.1 (by decide) HNE.out.symm, HH.out.2.2.2.1.kept (fun g cur h _ => hK.row g h)⟩, HH.out.2.2.2.2.trans hA.below⟩
    exact OwnIt.app hA.own rfl
  case done =>
    rintro D zs W hD hzs ⟨⟨_, ⟨o, b1, ho⟩, _, _⟩, hB⟩ hK
    have hz : zs = xs := hzs
    subst hz
    have m1 := b1.cell 0
    have f1 := b1.frozen 0
    simp at m1
    obtain ⟨A3, c3, rfl, _, _, _⟩ := SlV_of_any ho
    have hD' : w.heap.size ≤ D := by have := HTE.out; omega
    have HC := Lib.hid (And.intro b1 (And.intro ho (And.intro hB hK))); clear b1 ho hB hK hzs
    gi_wp2
    have hK2 : (W.setCell ⟨T, 0, none⟩ (.slice A3 zs.length c3)).heap[D]? = some (Obj.deferred (some [])) := (KeepsOthers.setCell W ⟨T, 0, none⟩ (.slice A3 zs.length c3)).same D _ HC.out.2.2.2 rfl
    have hR2 : Blk (W.setCell ⟨T, 0, none⟩ (.slice A3 zs.length c3)) T 22 #[.slice A3 zs.length c3] := HC.out.1.put 0 (.slice A3 zs.length c3)
    have hO2 : OwnIt (W.setCell ⟨T, 0, none⟩ (.slice A3 zs.length c3)) T (.slice A3 zs.length c3) zs := HC.out.2.1.kept (grown_put (grown_refl W (some T)) 0 _) (.inr (own_ne_blk HC.out.2.1 HC.out.1 (by decide)))
    have hB2 := HC.out.2.2.1.setCell (p := ⟨T, 0, none⟩) (Nat.le_refl _) (.slice A3 zs.length c3)
    have hw := fun r (e : some D = some r) => show ∃ o : Obj, (W.setCell ⟨T, 0, none⟩ (.slice A3 zs.length c3)).heap[r]? = some o ∧ o.isCells = false from (by cases e; exact ⟨_, hK2, rfl⟩)
    refine ⟨by simp, .inl ⟨_, _, rfl, run_takeDeferred hK2, ?_⟩⟩
    refine ⟨_, res_cell_sl rfl _ _ T 22 (.slice A3 zs.length c3) rfl (blk_ownF hR2 (grownBy_putObj' _ D (.deferred none)) hw) Tryz.underlying22, ⟨_, rfl, ?_, ?_⟩⟩
    · rw [← HTE.out]
      exact own_ownF hO2 (grownBy_putObj' _ D (.deferred none)) hw
    · exact (hB2.mono (by have := HTE.out; omega)).trans (belowK_b (w := w) (Nat.le_refl _) _ D _ _ hD' hK2 rfl rfl)
  case stop =>
    rintro D c pre W hD hSp h
    exact h.elim
end Go.Proofs.YtmpgmgjokliceaaGreatDoor
/- tree.Under$1: what Under leaves out. -/
set_option linter.unusedVariables false
set_option linter.unusedSimpArgs false
namespace Go.Proofs.YtmpgmgjokliceaaGreatDoor
open Go Go.RowKit
open Sw
/-- is an entry neither at a path nor under it? -/
def awayT (p : ByteArray) (x : NE) : Bool := !decide (x.1 = p) && !inS (upsS x.1) p
set_option maxRecDepth 100000 in
set_option maxHeartbeats 4000000 in
theorem treeUnder1_any (w : World) (g : Nat) (p : ByteArray) (x : NE) (hB : Blk w g 9 #[.string p]) (hp : p.size ≤ 90000) (hx : x.1.size ≤ 90000) :
    Calls Tryz.prog 57 #[.agg #[.string x.1, .int .i64 x.2.kind, .int .i64 x.2.mode, .int .u32 x.2.time, .string x.2.data], .pointer (some ⟨g, 0, none⟩)] w fun e w' => e = .returned (.bool (awayT p x)) ∧ Below w.heap.size w w' := by
  have c0 := hB.cell 0
  simp at c0
  have hg := hB.lt
  have hse := str_eq x.1 p
  have HU := Lib.hid (under_any (w.alloc (.cells #[.string x.1, .int .i64 x.2.kind, .int .i64 x.2.mode, .int .u32 x.2.time, .string x.2.data] 70)) p x.1 (by omega))
  have HB1 := Lib.hid ((Below.refl w.heap.size w).alloc (Nat.le_refl _) (.cells #[.string x.1, .int .i64 x.2.kind, .int .i64 x.2.mode, .int .u32 x.2.time, .string x.2.data] 70))
  clear hB
  unfold awayT
  by_cases hk : x.1 = p
  · rw [decide_eq_true hk] at hse ⊢
    have hse2 : (!(x.1.toList == p.toList)) = false := by rw [hse]; rfl
    clear hk
    go_enter Tryz.func57, Tryz.ntmps57
    go_wp2_with fail
    go_ret
    exact ⟨rfl, HB1.out⟩
  · rw [decide_eq_false hk] at hse ⊢
    have hse2 : (!(x.1.toList == p.toList)) = true := by rw [hse]; rfl
    clear hk
    generalize inS (upsS x.1) p = R at *
    go_enter Tryz.func57, Tryz.ntmps57
    go_wp2_with fail
    refine HU.out.mono ?_
    rintro _ w2 ⟨rfl, hb2⟩
    have HB2 := Lib.hid (HB1.out.trans (hb2.mono HB1.out.size)); clear hb2
    go_wp2_with fail
    go_ret
    exact ⟨by cases R <;> rfl, HB2.out⟩
end Go.Proofs.YtmpgmgjokliceaaGreatDoor
/- tree.Under. -/
set_option linter.unusedVariables false
set_option linter.unusedSimpArgs false
namespace Go.Proofs.YtmpgmgjokliceaaGreatDoor
open Go Go.RowKit
open Sw
/-- what stands at a path and under it -/
def undT (p : ByteArray) (xs : List NE) : List NE := xs.filter fun x => !awayT p x
set_option maxRecDepth 100000 in
set_option maxHeartbeats 4000000 in
theorem treeUnder_any (w : World) (bt bm : Nat) (xs : List NE) (p : ByteArray) (h : TreeAt w bt bm xs) (hn : xs.length ≤ 1000) (hp : p.size ≤ 90000) :
    Calls Tryz.prog 19 #[.pointer (some ⟨bt, 0, none⟩), .string p] w fun e w' => ∃ r, e = .returned r ∧ OwnIt w' w.heap.size r (undT p xs) ∧ Below w.heap.size w w' := by
  have b0 := Blk.new w 9 #[.string p]
  have hB : Below w.heap.size w (w.alloc (.cells #[.string p] 9)) := (Below.refl _ w).alloc (Nat.le_refl _) _
  have hok : ∀ e ∈ xs, e.1.size ≤ 90000 := fun e he => h.map.ok e he
  have hT := h.below hB
  have HI := Lib.hid (treeItems_any _ bt bm xs hT hn)
  have H0 := Lib.hid (And.intro b0 hB); clear b0 hB hT h
  go_enter Tryz.func19, Tryz.ntmps19
  go_wp2_with fail
  refine HI.out.mono ?_
  rintro e w2 ⟨r, rfl, ho, hb2⟩
  have hB2 := H0.out.1.below hb2 H0.out.1.lt
  have hbw := H0.out.2.trans (hb2.mono H0.out.2.size)
  have hge : ∀ k, r.ownBlock = some k → w.heap.size + 1 ≤ k := fun k hk => by have := (ho.lt k hk).1; simp at this; omega
  have ho' : OwnIt w2 w.heap.size r xs := own_wide ho (by simp)
  have HDF := Lib.hid (slDelFuncIT_any (awayT p) (fun W => Blk W w.heap.size 9 #[.string p]) w2 w.heap.size r xs ho' (fun W W' hC hg => hC.grown hg (fun e => by have := hge _ e.symm; omega)) w.heap.size (by omega) hB2
    (fun W x hx hC => treeUnder1_any W w.heap.size p x hC hp (hok x hx)))
  have HF := Lib.hid (And.intro hbw hge); clear hb2 hB2 hbw hge ho ho' HI H0
  go_wp2_with fail
  refine HDF.out.mono ?_
  rintro e w3 ⟨v, rfl, hov, hg, _⟩
  have HZ := Lib.hid (And.intro hov (HF.out.1.grown hg HF.out.1.size (fun k hk => by have := HF.out.2 k hk; omega))); clear hov hg HF HDF
  go_wp2_with fail
  go_ret
  exact ⟨v, rfl, HZ.out.1, HZ.out.2⟩
end Go.Proofs.YtmpgmgjokliceaaGreatDoor
/- A tree's rows: what always holds of them, and what a path's clearing leaves; plain. -/
set_option linter.unusedVariables false
set_option linter.unusedSimpArgs false
namespace Sw
open Go
open Go.Proofs.YtmpgmgjokliceaaGreatDoor (partsS awayT undT)
/-- what holds of a tree's entries -/
structure TI (xs : List NE) : Prop where
  up : Up ordS xs
  paths : Paths xs
  nod : ∀ e ∈ xs, ¬ e.2.kind = 0 ∧ nodeR e.2 = 0
  par : ∀ e ∈ xs, ∀ u ∈ upsS e.1, ∃ d ∈ xs, d.1 = u ∧ d.2.kind = 2
theorem TI.nil : TI [] := ⟨List.Pairwise.nil, fun _ h => absurd h (by simp), fun _ h => absurd h (by simp), fun _ h => absurd h (by simp)⟩
theorem up_key {xs : List NE} (hu : Up ordS xs) {a b : NE} (ha : a ∈ xs) (hb : b ∈ xs) (h : a.1 = b.1) : a = b := by
  induction xs with
  | nil => cases ha
  | cons x xs ih =>
    have hself : ∀ y ∈ xs, ¬ y.1 = x.1 := fun y hy e => by
      have := hu.head y hy
      rw [e, ordS_refl] at this
      omega
    rcases List.mem_cons.1 ha with rfl | ha
    · rcases List.mem_cons.1 hb with rfl | hb
      · rfl
      · exact absurd h.symm (hself b hb)
    · rcases List.mem_cons.1 hb with hbx | hb
      · exact absurd (h.trans (by rw [hbx])) (hself _ ha)
      · exact ih hu.tail ha hb
theorem getT_in {xs : List NE} (hu : Up ordS xs) {e : NE} (h : e ∈ xs) : getT xs e.1 = e.2 := by
  unfold getT
  rw [get_find ordS_ord e.1 xs hu]
  cases hf : xs.find? (fun x => decide (ordS x.1 e.1 = 0)) with
  | none =>
    have := List.find?_eq_none.1 hf e h
    simp [ordS_refl] at this
  | some x =>
    have h0 : ordS x.1 e.1 = 0 := by have := List.find?_some hf; simpa using this
    rw [up_key hu (List.mem_of_find?_eq_some hf) h (ordS_zero h0)]
    rfl
theorem getT_out {xs : List NE} (hu : Up ordS xs) {p : ByteArray} (h : ∀ e ∈ xs, ¬ e.1 = p) : getT xs p = ndZ := by
  unfold getT
  rw [get_find ordS_ord p xs hu, List.find?_eq_none.2 (fun e he => by have := h e he; simp [ordS_ord.iff, this])]
  rfl
theorem getT_kind {xs : List NE} (hu : Up ordS xs) {p : ByteArray} (h : ¬ (getT xs p).kind = 0) : (p, getT xs p) ∈ xs := by
  rcases Classical.em (∃ e ∈ xs, e.1 = p) with ⟨e, he, rfl⟩ | hn
  · rw [getT_in hu he]; exact he
  · rw [getT_out hu (fun e he h => hn ⟨e, he, h⟩)] at h
    exact absurd rfl h
theorem put_iff {xs : List NE} (hu : Up ordS xs) (p : ByteArray) (n : Nd) (e : NE) : e ∈ putN ordS p n xs ↔ e = (p, n) ∨ (e ∈ xs ∧ ¬ e.1 = p) := by
  rw [put_filter ordS_ord p n xs hu]
  simp only [List.mem_append, List.mem_filter, List.mem_cons, decide_eq_true_eq]
  have h3 := ordS_three e.1 p
  constructor
  · rintro (⟨h, hk⟩ | rfl | ⟨h, hk⟩)
    · exact .inr ⟨h, fun e' => by rw [e', ordS_refl] at hk; omega⟩
    · exact .inl rfl
    · exact .inr ⟨h, fun e' => by rw [e', ordS_refl] at hk; omega⟩
  · rintro (rfl | ⟨h, hk⟩)
    · exact .inr (.inl rfl)
    · rcases h3 with h3 | h3 | h3
      · exact .inl ⟨h, by omega⟩
      · exact absurd (ordS_zero h3) hk
      · exact .inr (.inr ⟨h, by omega⟩)
theorem drop_iff {xs : List NE} (hu : Up ordS xs) (p : ByteArray) (e : NE) : e ∈ dropN ordS p xs ↔ e ∈ xs ∧ ¬ e.1 = p := by
  rw [drop_filter ordS_ord p xs hu]
  simp [List.mem_filter, ordS_ord.iff]
/-- the ups of a path: its parent, and the parent's -/
theorem ups_parent {p u : ByteArray} (h : u ∈ upsS p) : ¬ parentS p = ⟨#[]⟩ ∧ parentS p ∈ upsS p ∧ (u = parentS p ∨ u ∈ upsS (parentS p)) := by
  rcases parent_last p with ⟨h0, _⟩ | ⟨hne, hl, hp⟩
  · rw [h0] at h; cases h
  · have hmem : parentS p ∈ upsS p := by rw [← hl]; exact List.getLast_mem hne
    refine ⟨hp, hmem, ?_⟩
    obtain ⟨k, hk1, hk2, hk3, hkr⟩ := ups_mem h
    obtain ⟨m, hm1, hm2, hm3, hmr⟩ := ups_mem hmem
    have hlen := upsS_len p
    have hm : partsS (parentS p) = (partsS p).take ((partsS p).length - 1) := by
      rw [← hl, List.getLast_eq_getElem]
      have hlt : (upsS p).length - 1 < (upsS p).length := by have := List.length_pos_iff.2 hne; omega
      have := ups_step p ((upsS p).length - 1) hlt
      rw [upsS_at p _ hlt]
      have hr : rightL p.data.toList = true := by
        cases hr : rightL p.data.toList with
        | true => rfl
        | false => rw [partsS_not hr] at hk2; simp at hk2
      rw [show (upsS p).length - 1 + 1 = (partsS p).length - 1 by have := List.length_pos_iff.2 hne; omega]
      rw [partsS_right hr] at hk2 ⊢
      have ht := right_take hr ((spS p).length - 1) (by omega)
      rw [partsS_right (by rw [data_mkB]; exact ht.1)]
      exact ht.2
    by_cases hkk : k = (partsS p).length - 1
    · left
      refine parts_inj (by rw [hk3, hm, hkk]) (by rw [hk3, List.length_take]; omega)
    · right
      refine ups_of (k := k) hk1 (by rw [hm, List.length_take]; omega) ?_
      rw [hk3, hm, List.take_take, Nat.min_eq_left (by omega)]
theorem ups_trans {u v p : ByteArray} (h1 : u ∈ upsS v) (h2 : v ∈ upsS p) : u ∈ upsS p := by
  obtain ⟨k, hk1, hk2, hk3, _⟩ := ups_mem h1
  obtain ⟨m, hm1, hm2, hm3, _⟩ := ups_mem h2
  rw [hm3, List.length_take] at hk2
  exact ups_of (k := k) hk1 (by omega) (by rw [hk3, hm3, List.take_take, Nat.min_eq_left (by omega)])
theorem ups_self {p : ByteArray} : ¬ p ∈ upsS p := fun h => by
  have := ups_order h
  rw [ordS_refl] at this
  omega
theorem away_iff (p : ByteArray) (e : NE) : awayT p e = true ↔ ¬ e.1 = p ∧ ¬ p ∈ upsS e.1 := by
  unfold Go.Proofs.YtmpgmgjokliceaaGreatDoor.awayT
  rw [Bool.and_eq_true, Bool.not_eq_true', Bool.not_eq_true', decide_eq_false_iff_not, ← inS_iff]
  simp
/-- nothing is under a path that holds says so of -/
theorem holds_not {xs : List NE} (hu : Up ordS xs) (hp : Paths xs) {p : ByteArray} (h : holdsT xs p = false) : ∀ e ∈ xs, ¬ p ∈ upsS e.1 := fun e he hq => by
  rw [holds_any xs p hu hp, List.any_eq_false] at h
  exact h e he ((inS_iff _ _).2 hq)
theorem holds_no {xs : List NE} (hu : Up ordS xs) (hp : Paths xs) {p : ByteArray} (h : ∀ e ∈ xs, ¬ p ∈ upsS e.1) : holdsT xs p = false := by
  rw [holds_any xs p hu hp, List.any_eq_false]
  exact fun e he hq => h e he ((inS_iff _ _).1 hq)
/-- what may's answer 0 says -/
theorem may_zero {xs : List NE} {p : ByteArray} {n : Nd} (h : mayT xs p n = 0) : rightL p.data.toList = true ∧ ¬ n.kind = 0 ∧ nodeR n = 0 ∧ parentT xs p = 0 ∧ (n.kind = 2 ∨ holdsT xs p = false) ∧ ((getT xs p).kind = 0 → xs.length < 500) := by
  unfold mayT at h
  cases hr : rightL p.data.toList with
  | false => rw [if_pos hr] at h; cases h
  | true =>
    rw [if_neg (by rw [hr]; simp)] at h
    by_cases h0 : n.kind = 0
    · rw [if_pos h0] at h; cases h
    · rw [if_neg h0] at h
      by_cases h1 : nodeR n = 0
      · rw [if_neg (by simpa using h1)] at h
        by_cases h2 : parentT xs p = 0
        · rw [if_neg (by simpa using h2)] at h
          by_cases h3 : ¬ n.kind = 2 ∧ holdsT xs p = true
          · rw [if_pos h3] at h; cases h
          · rw [if_neg h3] at h
            by_cases h4 : (getT xs p).kind = 0 ∧ 500 ≤ xs.length
            · rw [if_pos h4] at h; cases h
            · refine ⟨rfl, h0, h1, h2, ?_, fun hk => by have := fun hl => h4 ⟨hk, hl⟩; omega⟩
              rcases Classical.em (n.kind = 2) with hk | hk
              · exact .inl hk
              · right
                cases hh : holdsT xs p with
                | false => rfl
                | true => exact absurd ⟨hk, hh⟩ h3
        · rw [if_pos h2] at h; exact absurd h h2
      · rw [if_pos h1] at h; exact absurd h h1
theorem may_of {xs : List NE} {p : ByteArray} {n : Nd} (h1 : rightL p.data.toList = true) (h2 : ¬ n.kind = 0) (h3 : nodeR n = 0) (h4 : parentT xs p = 0) (h5 : n.kind = 2 ∨ holdsT xs p = false) (h6 : (getT xs p).kind = 0 → xs.length < 500) : mayT xs p n = 0 := by
  unfold mayT
  rw [if_neg (by rw [h1]; simp), if_neg h2, if_neg (by simpa using h3), if_neg (by simpa using h4), if_neg (by rcases h5 with h | h <;> simp [h]), if_neg (fun h => by have := h6 h.1; omega)]
theorem parentT_zero {xs : List NE} {p : ByteArray} (h : parentT xs p = 0) : parentS p = ⟨#[]⟩ ∨ (getT xs (parentS p)).kind = 2 := by
  unfold parentT at h
  by_cases h0 : parentS p = ⟨#[]⟩
  · exact .inl h0
  · rw [if_neg h0] at h
    by_cases h1 : (getT xs (parentS p)).kind = 0
    · rw [if_pos h1] at h; cases h
    · rw [if_neg h1] at h
      by_cases h2 : (getT xs (parentS p)).kind = 2
      · exact .inr h2
      · rw [if_neg h2] at h; cases h
theorem parentT_of {xs : List NE} {p : ByteArray} (h : parentS p = ⟨#[]⟩ ∨ (getT xs (parentS p)).kind = 2) : parentT xs p = 0 := by
  unfold parentT
  rcases h with h | h
  · rw [if_pos h]
  · by_cases h0 : parentS p = ⟨#[]⟩
    · rw [if_pos h0]
    · rw [if_neg h0, if_neg (by rw [h]; decide), if_pos h]
theorem TI.putN {xs : List NE} (h : TI xs) {p : ByteArray} {n : Nd} (hm : mayT xs p n = 0) : TI (putN ordS p n xs) := by
  obtain ⟨m1, m2, m3, m4, m5, _⟩ := may_zero hm
  refine ⟨put_up ordS_ord p n xs h.up, h.paths.put m1 n, fun e he => ?_, fun e he u hu => ?_⟩
  · rcases (put_iff h.up p n e).1 he with rfl | ⟨he, _⟩
    · exact ⟨m2, m3⟩
    · exact h.nod e he
  · rcases (put_iff h.up p n e).1 he with rfl | ⟨he, hep⟩
    · obtain ⟨hne, hmem, hor⟩ := ups_parent hu
      have hk : (getT xs (parentS p)).kind = 2 := (parentT_zero m4).resolve_left hne
      have hd := getT_kind h.up (p := parentS p) (by rw [hk]; decide)
      have hpp : ¬ parentS p = p := fun e => ups_self (p := p) (by rw [e] at hmem; exact hmem)
      rcases hor with rfl | hor
      · exact ⟨_, (put_iff h.up p n _).2 (.inr ⟨hd, hpp⟩), rfl, hk⟩
      · obtain ⟨d, hd1, rfl, hd3⟩ := h.par _ hd u hor
        exact ⟨d, (put_iff h.up p n _).2 (.inr ⟨hd1, fun e => ups_self (e ▸ hu : p ∈ upsS p)⟩), rfl, hd3⟩
    · obtain ⟨d, hd1, rfl, hd3⟩ := h.par e he u hu
      by_cases hdp : d.1 = p
      · rcases m5 with hk | hh
        · exact ⟨(p, n), (put_iff h.up p n _).2 (.inl rfl), hdp.symm, hk⟩
        · exact absurd (hdp ▸ hu) (holds_not h.up h.paths hh e he)
      · exact ⟨d, (put_iff h.up p n _).2 (.inr ⟨hd1, hdp⟩), rfl, hd3⟩
theorem TI.putT {xs : List NE} (h : TI xs) (p : ByteArray) (n : Nd) : TI (putT xs p n) := by
  unfold Sw.putT
  split
  · rename_i hm; exact h.putN hm
  · exact h
theorem TI.dropT {xs : List NE} (h : TI xs) (p : ByteArray) : TI (dropT xs p) := by
  unfold Sw.dropT
  split
  · rename_i hm
    have hh : holdsT xs p = false := by
      unfold whyDrop at hm
      cases hh : holdsT xs p with
      | false => rfl
      | true =>
        by_cases h0 : (getT xs p).kind = 0
        · rw [if_pos h0] at hm; cases hm
        · rw [if_neg h0, if_pos hh] at hm; cases hm
    refine ⟨drop_up ordS_ord p xs h.up, fun e he => h.paths e ((drop_iff h.up p e).1 he).1, fun e he => h.nod e ((drop_iff h.up p e).1 he).1, fun e he u hu => ?_⟩
    obtain ⟨d, hd1, rfl, hd3⟩ := h.par e ((drop_iff h.up p e).1 he).1 u hu
    refine ⟨d, (drop_iff h.up p d).2 ⟨hd1, fun e' => ?_⟩, rfl, hd3⟩
    exact holds_not h.up h.paths hh e ((drop_iff h.up p e).1 he).1 (e' ▸ hu)
  · exact h
theorem Up.filter {xs : List NE} (h : Up ordS xs) (f : NE → Bool) : Up ordS (xs.filter f) := List.Pairwise.filter f h
theorem TI.away {xs : List NE} (h : TI xs) (p : ByteArray) : TI (xs.filter (awayT p)) := by
  refine ⟨h.up.filter _, fun e he => h.paths e (List.mem_filter.1 he).1, fun e he => h.nod e (List.mem_filter.1 he).1, fun e he u hu => ?_⟩
  obtain ⟨he, ha⟩ := List.mem_filter.1 he
  obtain ⟨h1, h2⟩ := (away_iff p e).1 ha
  obtain ⟨d, hd1, rfl, hd3⟩ := h.par e he u hu
  exact ⟨d, List.mem_filter.2 ⟨hd1, (away_iff p d).2 ⟨fun e' => h2 (e' ▸ hu), fun hq => h2 (ups_trans hq hu)⟩⟩, rfl, hd3⟩
/-- a row without the keys of another one -/
def cutT (xs R : List NE) : List NE := xs.filter fun e => !R.any fun r => decide (r.1 = e.1)
theorem cut_iff (xs R : List NE) (e : NE) : e ∈ cutT xs R ↔ e ∈ xs ∧ ∀ r ∈ R, ¬ r.1 = e.1 := by
  unfold cutT
  rw [List.mem_filter]
  simp
theorem und_iff (p : ByteArray) (xs : List NE) (e : NE) : e ∈ undT p xs ↔ e ∈ xs ∧ (e.1 = p ∨ p ∈ upsS e.1) := by
  unfold Go.Proofs.YtmpgmgjokliceaaGreatDoor.undT
  rw [List.mem_filter, Bool.not_eq_true']
  constructor
  · rintro ⟨h1, h2⟩
    refine ⟨h1, ?_⟩
    rcases Classical.em (e.1 = p) with h | h
    · exact .inl h
    · right
      rcases Classical.em (p ∈ upsS e.1) with h' | h'
      · exact h'
      · rw [(away_iff p e).2 ⟨h, h'⟩] at h2; cases h2
  · rintro ⟨h1, h2⟩
    refine ⟨h1, ?_⟩
    cases ha : awayT p e with
    | false => rfl
    | true =>
      have := (away_iff p e).1 ha
      rcases h2 with h2 | h2
      · exact absurd h2 this.1
      · exact absurd h2 this.2
/-- what was emptied from behind -/
theorem empty_fold {xs : List NE} (h : TI xs) (p : ByteArray) : (undT p xs).reverse.foldl (fun ys e => dropT ys e.1) xs = xs.filter (awayT p) := by
  have hU : Up ordS (undT p xs) := h.up.filter _
  have key : ∀ R V : List NE, V ++ R = undT p xs → R.foldr (fun e ys => dropT ys e.1) xs = cutT xs R := by
    intro R
    induction R with
    | nil => intro V _; unfold cutT; simp; exact (List.filter_eq_self.2 fun _ _ => rfl).symm
    | cons e R ih =>
      intro V hV
      have hR := ih (V ++ [e]) (by rw [← hV]; simp)
      rw [List.foldr_cons, hR]
      have heU : e ∈ undT p xs := by rw [← hV]; simp
      have hex := (und_iff p xs e).1 heU
      have hup : Up ordS (e :: R) := by rw [← hV] at hU; exact (List.pairwise_append.1 hU).2.1
      have hC : Up ordS (cutT xs R) := h.up.filter _
      have hP : Paths (cutT xs R) := fun a ha => h.paths a ((cut_iff xs R a).1 ha).1
      have heC : e ∈ cutT xs R := (cut_iff xs R e).2 ⟨hex.1, fun r hr e' => by
        have := hup.head r hr
        rw [e', ordS_refl] at this
        omega⟩
      have hw : whyDrop (cutT xs R) e.1 = 0 := by
        unfold whyDrop
        rw [getT_in hC heC, if_neg (h.nod e hex.1).1, holds_no hC hP (fun x hx hq => ?_), if_neg (by simp)]
        obtain ⟨hx1, hx2⟩ := (cut_iff xs R x).1 hx
        have hxU : x ∈ undT p xs := (und_iff p xs x).2 ⟨hx1, .inr (by
          rcases hex.2 with h' | h'
          · rw [← h']; exact hq
          · exact ups_trans h' hq)⟩
        have ho := ups_order hq
        rw [← hV] at hxU hU
        rcases List.mem_append.1 hxU with hxV | hxR
        · have := (List.pairwise_append.1 hU).2.2 x hxV e (List.mem_cons_self ..)
          have hn := ordS_neg e.1 x.1
          omega
        · rcases List.mem_cons.1 hxR with rfl | hxR
          · rw [ordS_refl] at ho; omega
          · exact hx2 x hxR rfl
      unfold dropT
      rw [if_pos hw, drop_filter ordS_ord e.1 _ hC]
      unfold cutT
      rw [List.filter_filter]
      refine List.filter_congr fun a ha => ?_
      simp only [List.any_cons, Bool.not_or]
      congr 2
      rw [Bool.eq_iff_iff]
      simp only [decide_eq_true_eq, ordS_ord.iff]
      exact eq_comm
  rw [List.foldl_reverse]
  have := key (undT p xs) [] rfl
  rw [this]
  unfold cutT
  refine List.filter_congr fun e he => ?_
  cases ha : awayT p e with
  | true =>
    rw [Bool.not_eq_true', List.any_eq_false]
    intro r hr hk
    have hre : r = e := up_key h.up ((und_iff p xs r).1 hr).1 he (by simpa using hk)
    subst hre
    obtain ⟨h1, h2⟩ := (away_iff p r).1 ha
    rcases ((und_iff p xs r).1 hr).2 with h' | h'
    · exact h1 h'
    · exact h2 h'
  | false =>
    rw [Bool.not_eq_false', List.any_eq_true]
    refine ⟨e, List.mem_filter.2 ⟨he, by rw [ha]; rfl⟩, by simp⟩
end Sw
/- Plain laws of layer 2: the sum's steps on numbers. No program in sight. -/
set_option linter.unusedVariables false
namespace Sw
def poly : Nat := 3988292384
/-- one bit's step -/
def stp (x : Nat) : Nat := if x % 2 = 1 then (x / 2) ^^^ poly else x / 2
def stpN : Nat → Nat → Nat
  | 0, x => x
  | k + 1, x => stp (stpN k x)
/-- the state behind a byte -/
@[irreducible] def byteS (s b : Nat) : Nat := stpN 8 (s ^^^ b)
theorem byteS_def (s b : Nat) : byteS s b = stpN 8 (s ^^^ b) := by unfold byteS; rfl
/-- the state behind a text -/
def feedS : Nat → List UInt8 → Nat
  | s, [] => s
  | s, b :: l => feedS (byteS s b.toNat) l
/-- the sum of a text -/
def ofS (l : List UInt8) : Nat := 4294967295 - feedS 4294967295 l
theorem poly_lt : poly < 2 ^ 32 := by decide
theorem stp_lt (x : Nat) (h : x < 2 ^ 32) : stp x < 2 ^ 32 := by
  unfold stp
  split
  · exact Nat.xor_lt_two_pow (by omega) poly_lt
  · omega
theorem stpN_lt (k x : Nat) (h : x < 2 ^ 32) : stpN k x < 2 ^ 32 := by
  induction k with
  | zero => exact h
  | succ k ih => exact stp_lt _ ih
theorem byteS_lt (s b : Nat) (hs : s < 2 ^ 32) (hb : b < 2 ^ 32) : byteS s b < 2 ^ 32 := by rw [byteS_def]; exact stpN_lt _ _ (Nat.xor_lt_two_pow hs hb)
theorem feedS_lt (l : List UInt8) : ∀ (s : Nat), s < 2 ^ 32 → feedS s l < 2 ^ 32 := by
  induction l with
  | nil => intro s h; exact h
  | cons b l ih =>
    intro s h
    have h1 := byteS_lt s b.toNat h (Nat.lt_trans b.toNat_lt (by decide))
    have h2 := ih _ h1
    rw [feedS]
    exact h2
theorem feedS_append (s : Nat) (l m : List UInt8) : feedS s (l ++ m) = feedS (feedS s l) m := by
  induction l generalizing s with
  | nil => rfl
  | cons b l ih => rw [List.cons_append, feedS, ih, feedS]
theorem feedS_cons (s : Nat) (b : UInt8) (m : List UInt8) : feedS s (b :: m) = feedS (byteS s b.toNat) m := by rw [feedS]
theorem xor_mod2 (a b : Nat) : (a ^^^ b) % 2 = (a % 2) ^^^ (b % 2) := by
  have h := Nat.xor_mod_two_pow (a := a) (b := b) (n := 1)
  rw [Nat.pow_one] at h
  exact h
theorem xor_div2 (a b : Nat) : (a ^^^ b) / 2 = (a / 2) ^^^ (b / 2) := by
  have := Nat.shiftRight_xor_distrib (i := 1) (a := a) (b := b)
  simpa [Nat.shiftRight_eq_div_pow] using this
theorem stp_zero : stp 0 = 0 := by decide
theorem stp_xor (a b : Nat) : stp (a ^^^ b) = stp a ^^^ stp b := by
  unfold stp
  rw [xor_mod2, xor_div2]
  have ha : a % 2 = 0 ∨ a % 2 = 1 := by omega
  have hb : b % 2 = 0 ∨ b % 2 = 1 := by omega
  rcases ha with ha | ha <;> rcases hb with hb | hb <;> rw [ha, hb] <;> simp
  · rw [Nat.xor_assoc]
  · rw [Nat.xor_assoc, Nat.xor_assoc, Nat.xor_comm poly (b / 2)]
  · rw [Nat.xor_assoc, ← Nat.xor_assoc poly, Nat.xor_comm poly (b / 2), Nat.xor_assoc, Nat.xor_self, Nat.xor_zero]
theorem stpN_xor (k a b : Nat) : stpN k (a ^^^ b) = stpN k a ^^^ stpN k b := by
  induction k with
  | zero => rfl
  | succ k ih => rw [stpN, stpN, stpN, ih, stp_xor]
theorem stpN_zero (k : Nat) : stpN k 0 = 0 := by
  induction k with
  | zero => rfl
  | succ k ih => rw [stpN, ih, stp_zero]
/-- a number that is a multiple of 2^k is only shifted -/
theorem stpN_shift (k h : Nat) : stpN k (2 ^ k * h) = h := by
  induction k generalizing h with
  | zero => simp [stpN]
  | succ k ih =>
    have e : 2 ^ (k + 1) * h = 2 ^ k * (2 * h) := by rw [Nat.pow_succ, Nat.mul_assoc]
    rw [stpN, e, ih (2 * h)]
    unfold stp
    rw [if_neg (by omega)]
    omega
theorem xor_hi_lo (x : Nat) : (2 ^ 8 * (x / 256)) ^^^ (x % 256) = x := by
  have h := Nat.two_pow_add_eq_or_of_lt (i := 8) (b := x % 256) (by omega) (x / 256)
  have h2 : 2 ^ 8 * (x / 256) ^^^ x % 256 = 2 ^ 8 * (x / 256) + x % 256 := by
    have e := Nat.two_pow_add_eq_or_of_lt (i := 8) (b := x % 256) (by omega) (x / 256)
    rw [e]
    apply Nat.eq_of_testBit_eq
    intro i
    rw [Nat.testBit_xor, Nat.testBit_or, Nat.testBit_two_pow_mul]
    by_cases hi : 8 ≤ i
    · have : (x % 256).testBit i = false := Nat.testBit_lt_two_pow (Nat.lt_of_lt_of_le (Nat.mod_lt x (by omega)) (by
        calc 256 = 2 ^ 8 := rfl
          _ ≤ 2 ^ i := Nat.pow_le_pow_right (by omega) hi))
      simp [this]
    · simp [hi]
  omega
/-- the table's step is the byte's -/
theorem table_step (s b : Nat) (hb : b < 256) : stpN 8 ((s ^^^ b) % 256) ^^^ (s / 256) = byteS s b := by
  have e := xor_hi_lo (s ^^^ b)
  have hd : (s ^^^ b) / 256 = s / 256 := by
    have h := Nat.shiftRight_xor_distrib (i := 8) (a := s) (b := b)
    simp [Nat.shiftRight_eq_div_pow] at h
    have h0 : b / 256 = 0 := by omega
    rw [h, h0, Nat.xor_zero]
  rw [byteS_def, ← e, stpN_xor, stpN_shift, hd, Nat.xor_comm]
  congr 1
  have h2 : ((2 ^ 8 * (s / 256) ^^^ (s ^^^ b) % 256)) % 256 = (s ^^^ b) % 256 := by rw [← hd, e]
  rw [h2]
/-- the reference's bit -/
def refBit (s bit : Nat) : Nat := if (s + bit) % 2 = 1 then (s / 2) ^^^ poly else s / 2
def refN : Nat → Nat → Nat → Nat
  | 0, s, _ => s
  | k + 1, s, b => refBit (refN k s b) (b / 2 ^ k % 2)
theorem stpN_ref (s b k : Nat) : stpN k (s ^^^ b) = refN k s b ^^^ (b / 2 ^ k) := by
  induction k with
  | zero => simp [stpN, refN]
  | succ k ih =>
    rw [stpN, ih, refN]
    generalize refN k s b = x
    have e : b / 2 ^ (k + 1) = b / 2 ^ k / 2 := by rw [Nat.pow_succ, Nat.div_div_eq_div_mul]
    rw [e]
    generalize b / 2 ^ k = y
    unfold stp refBit
    rw [xor_mod2, xor_div2]
    have hx : x % 2 = 0 ∨ x % 2 = 1 := by omega
    have hy : y % 2 = 0 ∨ y % 2 = 1 := by omega
    rcases hx with hx | hx <;> rcases hy with hy | hy <;> rw [hx, hy] <;> simp [Nat.add_mod, hx]
    · rw [Nat.xor_assoc, Nat.xor_assoc, Nat.xor_comm poly]
    · rw [Nat.xor_assoc, Nat.xor_assoc, Nat.xor_comm poly]
theorem refN_8 (s b : Nat) (hb : b < 256) : refN 8 s b = byteS s b := by
  have h := stpN_ref s b 8
  have h0 : b / 2 ^ 8 = 0 := by omega
  rw [h0, Nat.xor_zero] at h
  rw [byteS_def]
  exact h.symm
theorem refN_lt (k s b : Nat) (hs : s < 2 ^ 32) : refN k s b < 2 ^ 32 := by
  induction k with
  | zero => exact hs
  | succ k ih =>
    rw [refN]
    unfold refBit
    split
    · exact Nat.xor_lt_two_pow (by omega) poly_lt
    · omega
theorem not_xor (x : Nat) (h : x < 2 ^ 32) : 4294967295 - x = x ^^^ 4294967295 := by
  have e : 2 ^ 32 - (x + 1) = x ^^^ (2 ^ 32 - 1) := by
    apply Nat.eq_of_testBit_eq
    intro i
    rw [Nat.testBit_two_pow_sub_succ h, Nat.testBit_xor, Nat.testBit_two_pow_sub_one]
    by_cases hi : i < 32
    · simp [hi]
    · have : x.testBit i = false := Nat.testBit_lt_two_pow (Nat.lt_of_lt_of_le h (Nat.pow_le_pow_right (by omega) (by omega)))
      simp [hi, this]
  have e2 : 2 ^ 32 - 1 = 4294967295 := rfl
  rw [e2] at e
  omega
end Sw

