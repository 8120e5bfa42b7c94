/- Several texts, joined for the limit of sixty files; each one opens with its own comment. -/
import Derived.Test.YteofiffbobbdmaaGreatDoorJoin28
import Derived.Test.YteofiffbobbdmaaGreatDoorJoin12
import Derived.Test.YteofiffbobbdmaaGreatDoorJoin27
import Derived.Test.YteofiffbobbdmaaGreatDoorJoin9
/- recon.All: what is decided of all paths, in a row. -/
set_option linter.unusedVariables false
set_option linter.unusedSimpArgs false
namespace Go.Proofs.YteofiffbobbdmaaGreatDoor
open Go Go.RowKit Go.Shelf
open Sw
attribute [local go_sem] Oper.semAt_some
/-- behind some words: the row in the box holds them -/
def AsI (T : Nat) (pre : List StR) (W : World) : Prop := ∃ o, Blk W T 58 #[o] ∧ OwnR W T o pre
theorem AsI.own (T : Nat) : Own (AsI T) := fun _ A B row hs hg hr => by obtain ⟨o, h1, h2⟩ := hs; exact ⟨o, blk_ownF h1 hg hr, own_ownF h2 hg hr⟩
theorem AsI.below {T : Nat} {pre : List StR} {A B : World} (hs : AsI T pre A) (hb : Below A.heap.size A B) : AsI T pre B := by obtain ⟨o, h1, h2⟩ := hs; exact ⟨o, h1.below hb h1.lt, own_kept h2 hb⟩
set_option maxRecDepth 100000 in
set_option maxHeartbeats 4000000 in
theorem appendSeqR_any (w : World) (lb : Array Value) (ans : List StR) (B0 : Nat) (hB0 : B0 ≤ w.heap.size) (hS : SeqTells (fun _ => False) Fence.wide 8 Tryz.prog 56 lb (fun s : StR => #[.agg (eCR s).toArray]) (KeepR B0 tsR) (fun zs => zs = ans) (fun pre => pre <+: ans) (fun pre => pre <+: ans) w) (hlen : ans.length ≤ 6000) :
    Calls Tryz.prog 92 #[.slice none 0 0, .func (.func 56) #[] lb] w fun e w' => ∃ u, e = .returned u ∧ OwnR w' w.heap.size u ans ∧ Below w.heap.size w w' := by
  have b0 := Blk.new w 58 #[.slice none 0 0]
  have hB : Below w.heap.size w (w.alloc (.cells #[.slice none 0 0] 58)) := (Below.refl _ w).alloc (Nat.le_refl _) _
  refine callsIn_wide.1 (?_ : CallsIn Fence.wide 9 _ _ _ _ _)
  refine callsIn_of_wp_marks Tryz.func92 rfl trivial ?_ rfl
  simp only [Tryz.ntmps92, List.size_toArray, List.length_cons, List.length_nil, Nat.reduceAdd, Nat.reduceSub, Array.replicate_succ, Array.replicate_zero, List.push_toArray, List.append_toArray, List.nil_append, List.cons_append]
  have H0 := Lib.hid (And.intro b0 hB); clear b0 hB
  have HS := Lib.hid hS; clear hS
  gi_wp2
  obtain ⟨w1, hw1⟩ : ∃ w1, w.alloc (.cells #[.slice none 0 0] 58) = w1 := ⟨_, rfl⟩
  rw [hw1] at H0
  rw [hw1]
  clear hw1
  obtain ⟨T, hTe⟩ : ∃ T, T = w.heap.size := ⟨_, rfl⟩
  rw [← hTe] at H0 ⊢
  have HTE := Lib.hid hTe
  have hTw : T ≤ w1.heap.size := Nat.le_of_lt H0.out.1.lt
  clear hTe
  refine wpIn_rangeFunc_tellW (Mine := fun _ => False) (fun _ h => h.elim) rfl (by omega) (gf := 56) (lb := lb) rfl trivial (enters_of Tryz.func56 (by kernel_rfl) rfl)
    HS.out KeepR.trans (fun W l o o' hl h1 h2 _ => keepR_b o' (by have := HTE.out; omega) h1 h2) (by rw [← HTE.out]; exact H0.out.2) (fun _ => rfl)
    (fun pre W => AsI T pre W ∧ Below T w W)
    (fun c pre W => False)
    (OwnM.of_none (OwnFrom.and (Own.from (AsI.own T) _) (ownFrom_below (by have := HTE.out; omega) (by omega))))
    (fun c => OwnM.of_none (fun _ _ _ _ hs _ _ => hs.elim))
    ⟨⟨_, H0.out.1, World.ownsRow_nil _ _ _ _⟩, H0.out.2⟩
    ?a1 (fun x W => W.alloc (.cells (eCR x).toArray 64))
    (fun x n₀ pre W => AsI T pre W ∧ Below T w W ∧ Blk W n₀ 64 (eCR x).toArray) (fun x n₀ => OwnM.of_none (OwnFrom.and (Own.from (AsI.own T) _) (OwnFrom.and (ownFrom_below (by have := HTE.out; omega) (by omega)) (Own.from (fun _ A B row hs hg hr => blk_ownF hs hg hr) _)))) ?made ?assign ?body ?done ?stop
  case assign =>
    intro l x n0 W hn K hK
    simp only [eCR]
    gi_wp2
    exact hK
  case made =>
    rintro pre x W ⟨hI, hB⟩ hT
    have hba := (Below.refl W.heap.size W).alloc (Nat.le_refl _) (.cells (eCR x).toArray 64)
    have hI2 := hI
    obtain ⟨o, c0, _⟩ := hI2
    exact ⟨⟨hI.below hba, hB.alloc (Nat.le_of_lt c0.lt) _, Blk.new _ _ _⟩, keeps_belowF hba, .below hba (by have := c0.lt; have := HTE.out; omega)⟩
  case body =>
    rintro l pre ⟨q, vd, cl, ⟨ak, am, at', ad⟩, ⟨ck, cm, ct, cd⟩⟩ n₀ W ⟨⟨o, b1, ho⟩, hB, hX⟩ hT
    have hpl : pre.length + 1 ≤ 6000 := by obtain ⟨r, hr⟩ := hT; have := congrArg List.length hr; simp at this; omega
    simp only [eCR] at hX
    have x0 := hX.cell 0
    have x1 := hX.cell 1
    have x2 := hX.cell 2
    have x3 := hX.cell 3
    have x4 := hX.cell 4
    have x5 := hX.cell 5
    have x6 := hX.cell 6
    have x7 := hX.cell 7
    have x8 := hX.cell 8
    have x9 := hX.cell 9
    have x10 := hX.cell 10
    simp only [List.getElem?_toArray, List.getElem?_cons_succ, List.getElem?_cons_zero] at x0 x1 x2 x3 x4 x5 x6 x7 x8 x9 x10
    have m1 := b1.cell 0
    have f1 := b1.frozen 0
    simp at m1
    obtain ⟨A3, c3, rfl, _, _, _⟩ := SlV_of_any ho
    have hTW := Nat.le_of_lt b1.lt
    have HH := Lib.hid (And.intro b1 (And.intro ho hB)); clear b1 ho hB hX hT
    gi_wp2_with (gi_at_builtin; refine wpListIn_app rfl _ _ 58 rfl T 64 (.agg #[.string ⟨#[]⟩, .int .i64 0, .int .i64 0, .int .i64 0, .int .i64 0, .int .u32 0, .string ⟨#[]⟩, .int .i64 0, .int .i64 0, .int .u32 0, .string ⟨#[]⟩]) 11 112 Tryz.underlying58 infoR rfl (by decide) _ pre.length _ rfl (HH.out.2.1.alloc _) W.heap.size 1 #[.string q, .int .i64 vd, .int .i64 cl, .int .i64 ak, .int .i64 am, .int .u32 at', .string ad, .int .i64 ck, .int .i64 cm, .int .u32 ct, .string cd] 64 rfl (Blk.new _ _ _) rfl (by simp [Value.oneCell']) (by omega) (by decide) (by simp; omega) _ rfl ?_; intro g cap w5 hown1 hgrow1 hat hlt1; have hb5 := app_pre HH.out.1 HH.out.2.1 ((Below.refl _ _).alloc (Nat.le_refl _) _) hgrow1 (by decide); have c5 := hb5.cell 0; have f5 := hb5.frozen 0; simp at c5)
    have hA := app_body HH.out.1 HH.out.2.1 ((Below.refl _ _).alloc (Nat.le_refl _) _) hgrow1 hown1 (by omega) (Nat.le_refl _) (by decide)
    have hK : KeepR B0 tsR W _ := ⟨hA.below.mono (by have := HTE.out; omega), fun g' t cs hg' ht => hA.far g' t cs hg' (fun e' => ht (by rw [e']; decide)) (fun e' => ht (by subst e'; rw [hA.typ t cs hg']; decide))⟩
    exact ⟨hA.keeps, hK, ⟨_, hA.box, OwnR.app (x := ⟨q, vd, cl, ⟨ak, am, at', ad⟩, ⟨ck, cm, ct, cd⟩⟩) hA.own rfl⟩, HH.out.2.2.trans hA.below⟩
  case done =>
    rintro D zs W hD hzs ⟨⟨o, b1, ho⟩, hB⟩ hK
    have hz : zs = ans := hzs
    subst hz
    have m1 := b1.cell 0
    simp at m1
    obtain ⟨A3, c3, rfl, _, _, _⟩ := SlV_of_any ho
    have hg := grownBy_putObj' W D (.deferred none)
    have hw := fun r e => show ∃ o : Obj, W.heap[r]? = some o ∧ o.isCells = false from (by cases (e : some D = some r); exact ⟨_, hK, rfl⟩)
    have hD' : w.heap.size ≤ D := by have := HTE.out; omega
    have HF := Lib.hid (And.intro (own_ownF ho hg hw) (hB.trans (belowK_b (w := w) (by have := HTE.out; omega) W D _ (.deferred none) hD' hK rfl rfl)))
    clear ho hB b1
    gi_wp2
    refine ⟨by simp, .inl ⟨_, _, rfl, run_takeDeferred hK, ?_⟩⟩
    refine ⟨_, results_tmp rfl _ _ _, ⟨_, rfl, ?_, ?_⟩⟩
    · rw [← HTE.out]; exact HF.out.1
    · rw [← HTE.out]; exact HF.out.2
  case stop =>
    rintro D c pre W hD _ hF
    exact hF.elim
set_option maxRecDepth 100000 in
theorem collectR_any (w : World) (lb : Array Value) (ans : List StR) (B0 : Nat) (hB0 : B0 ≤ w.heap.size) (hS : SeqTells (fun _ => False) Fence.wide 8 Tryz.prog 56 lb (fun s : StR => #[.agg (eCR s).toArray]) (KeepR B0 tsR) (fun zs => zs = ans) (fun pre => pre <+: ans) (fun pre => pre <+: ans) w) (hlen : ans.length ≤ 6000) :
    Calls Tryz.prog 54 #[.func (.func 56) #[] lb] w fun e w' => ∃ u, e = .returned u ∧ OwnR w' w.heap.size u ans ∧ Below w.heap.size w w' := by
  have HA := Lib.hid (appendSeqR_any w lb ans B0 hB0 hS hlen)
  clear hS hlen
  go_enter Tryz.func54, Tryz.ntmps54
  go_wp2_with fail
  refine HA.out.mono ?_
  rintro e w1 ⟨u, rfl, ho, hb⟩
  have H1 := Lib.hid (And.intro ho hb)
  obtain ⟨A3, c3, rfl, _, _, _⟩ := SlV_of_any ho
  clear ho hb HA
  generalize ans.length = z at *
  go_wp2_with fail
  go_ret
  exact ⟨_, rfl, H1.out.1, H1.out.2⟩
set_option maxRecDepth 100000 in
set_option maxHeartbeats 2000000 in
theorem reconAll_any (w : World) (u1 u2 : Value) (l1 l2 : List MkE) (bt bm bt2 bm2 : Nat) (xs ys : List NE) (h1 : SlV w 6 eCM u1 l1) (h2 : SlV w 6 eCM u2 l2) (hl1 : l1.length ≤ 1000) (hl2 : l2.length ≤ 1000) (hp1 : ∀ m ∈ l1, m.1.size ≤ 90000) (hp2 : ∀ m ∈ l2, m.1.size ≤ 90000)
    (hT : TreeAt w bt bm xs) (hT2 : TreeAt w bt2 bm2 ys) (hxl : xs.length ≤ 1000) (hyl : ys.length ≤ 1000) (hxd : ∀ e ∈ xs, e.2.data.size ≤ maxLen) (hyd : ∀ e ∈ ys, e.2.data.size ≤ maxLen) :
    Calls Tryz.prog 22 #[.agg #[u1, u2], .pointer (some ⟨bt, 0, none⟩), .pointer (some ⟨bt2, 0, none⟩)] w fun e w' => ∃ u, e = .returned u ∧ OwnR w' w.heap.size u (allR (l1 ++ l2) xs ys) ∧ Below w.heap.size w w' := by
  have hb0 : Below w.heap.size w (w.alloc (.cells #[u1, u2] 24)) := (Below.refl _ w).alloc (Nat.le_refl _) _
  have hB := Blk.new w 24 #[u1, u2]
  obtain ⟨W, hW⟩ : ∃ W, w.alloc (.cells #[u1, u2] 24) = W := ⟨_, rfl⟩
  rw [hW] at hb0 hB
  have hlen : (allR (l1 ++ l2) xs ys).length ≤ 6000 := by
    unfold allR
    rw [List.length_map]
    exact Nat.le_trans (pathsS_len _) (by simp only [List.length_append, List.length_map]; omega)
  have hcol : ∀ W', W' = ((W.alloc (.cells #[u1, u2] 24)).alloc (.cells #[.pointer (some ⟨bt, 0, none⟩)] 28)).alloc (.cells #[.pointer (some ⟨bt2, 0, none⟩)] 28) → Below W.heap.size W W' ∧ Calls Tryz.prog 54 #[.func (.func 56) #[] #[.pointer (some ⟨W.heap.size, 0, none⟩), .pointer (some ⟨W.heap.size + 1, 0, none⟩), .pointer (some ⟨W.heap.size + 1 + 1, 0, none⟩)]] W' fun e w' => ∃ u, e = .returned u ∧ OwnR w' W'.heap.size u (allR (l1 ++ l2) xs ys) ∧ Below W'.heap.size W' w' := by
    intro W' hW'
    have hb1 : Below W.heap.size W W' := by rw [hW']; exact (((Below.refl _ W).alloc (Nat.le_refl _) _).alloc (by simp) _).alloc (by simp; omega) _
    have e0 : Blk W' W.heap.size 24 #[u1, u2] := by rw [hW']; exact (blk_fst _ _ _ _).alloc _
    have e1 : Blk W' (W.heap.size + 1) 28 #[.pointer (some ⟨bt, 0, none⟩)] := by rw [hW']; exact (blk_snd _ _ _ _).alloc _
    have e2 : Blk W' (W.heap.size + 1 + 1) 28 #[.pointer (some ⟨bt2, 0, none⟩)] := by rw [hW']; exact blk_trd _ _ _ _ _
    have hbw := hb0.trans (hb1.mono hb0.size)
    refine ⟨hb1, collectR_any W' _ _ w.heap.size hbw.size (each_tells 8 (by omega) w.heap.size W' hbw.size _ _ _ bt bm bt2 bm2 u1 u2 l1 l2 xs ys ⟨e0, e1, e2, hT.below hbw, hT2.below hbw⟩ (fun V hV => h1.below (hbw.trans hV) (Nat.le_refl _)) (fun V hV => h2.below (hbw.trans hV) (Nat.le_refl _)) hl1 hl2 hp1 hp2 hxl hyl hxd hyd) hlen⟩
  have HC := Lib.hid hcol
  have H0 := Lib.hid (And.intro hb0 hB)
  obtain ⟨A1, c1, rfl, _, _, _⟩ := h1
  obtain ⟨A2, c2, rfl, _, _, _⟩ := h2
  have HE := Lib.hid (reconEach_any W (.slice A1 l1.length c1) (.slice A2 l2.length c2) bt bt2 A1 A2 _ _ _ _ rfl rfl)
  have q0 := hB.cell 0
  have q1 := hB.cell 1
  simp only [List.getElem?_toArray, List.getElem?_cons_succ, List.getElem?_cons_zero] at q0 q1
  have HW := Lib.hid hW
  generalize allR (l1 ++ l2) xs ys = ans at *
  obtain ⟨m1, hm1⟩ : ∃ n, l1.length = n := ⟨_, rfl⟩
  obtain ⟨m2, hm2⟩ : ∃ n, l2.length = n := ⟨_, rfl⟩
  simp only [hm1, hm2] at HW HE HC H0 q0 q1 ⊢
  clear hb0 hB hcol hT hT2 hp1 hp2 hxd hyd hW hm1 hm2
  go_enter Tryz.func22, Tryz.ntmps22
  go_upto_region 1 with fail
  rw [HW.out]
  go_wp2_with fail
  refine HE.out.mono ?_
  rintro e w1 ⟨rfl, hw1⟩
  have HC1 := Lib.hid (HC.out w1 hw1)
  clear hw1 HC HE q0 q1
  go_wp2_with fail
  refine HC1.out.2.mono ?_
  rintro e w2 ⟨u, rfl, ho, hb⟩
  have H1 := Lib.hid (And.intro (show OwnR w2 w.heap.size u ans from own_wide ho (Nat.le_trans H0.out.1.size HC1.out.1.size)) (H0.out.1.trans ((HC1.out.1.trans (hb.mono HC1.out.1.size)).mono H0.out.1.size)))
  obtain ⟨A3, c3, rfl, _, _, _⟩ := SlV_of_any ho
  clear ho hb HC1
  generalize ans.length = z at *
  go_wp2_with fail
  go_ret
  exact ⟨_, rfl, H1.out.1, H1.out.2⟩
end Go.Proofs.YteofiffbobbdmaaGreatDoor
/- recon.Count. -/
set_option linter.unusedVariables false
set_option linter.unusedSimpArgs false
namespace Sw
/-- how many of a row are in a state -/
def cntR (k : Int) (l : List StR) : Int := ((l.filter fun f => decide (f.verdict = k)).length : Nat)
theorem cntR_step (k : Int) (l : List StR) (i : Nat) (h : i < l.length) : cntR k (l.take (i + 1)) = cntR k (l.take i) + if l[i].verdict = k then 1 else 0 := by
  unfold cntR
  rw [List.take_succ_eq_append_getElem h, List.filter_append, List.length_append]
  by_cases hk : l[i].verdict = k
  · rw [if_pos hk, List.filter_cons_of_pos (by simpa using hk)]; simp
  · rw [if_neg hk, List.filter_cons_of_neg (by simpa using hk)]; simp
theorem cntR_le (k : Int) (l : List StR) : 0 ≤ cntR k l ∧ cntR k l ≤ l.length := by
  unfold cntR
  have := List.length_filter_le (fun f : StR => decide (f.verdict = k)) l
  omega
end Sw
namespace Go.Proofs.YteofiffbobbdmaaGreatDoor
open Go Go.RowKit
open Sw
set_option maxRecDepth 100000 in
set_option maxHeartbeats 8000000 in
theorem reconCount_any (w : World) (v : Value) (l : List StR) (h : SlV w 11 eCR v l) (hl : l.length ≤ 100000) (hs : ∀ f ∈ l, f.verdict = 0 ∨ f.verdict = 1 ∨ f.verdict = 2 ∨ f.verdict = 3) :
    Calls Tryz.prog 25 #[v] w fun e w' => e = .returned (.agg #[.int .i64 (cntR 0 l), .int .i64 (cntR 1 l), .int .i64 (cntR 2 l), .int .i64 (cntR 3 l)]) ∧ Below w.heap.size w w' := by
  obtain ⟨A, k, rfl, hk1, hk2, hsl⟩ := h
  unfold maxLen at hk2
  have hb0 : Below w.heap.size w (w.alloc (.cells #[.int .i64 0, .int .i64 0, .int .i64 0, .int .i64 0] 34)) := (Below.refl _ w).alloc (Nat.le_refl _) _
  have H0 := Lib.hid (And.intro (Blk.new w 34 #[.int .i64 0, .int .i64 0, .int .i64 0, .int .i64 0]) (And.intro hb0 (And.intro hsl hs)))
  obtain ⟨n, hn⟩ : ∃ n, l.length = n := ⟨_, rfl⟩
  rw [hn] at hk1 hl ⊢
  have HN := Lib.hid hn
  obtain ⟨a0, hz0⟩ : ∃ z, cntR 0 l = z := ⟨_, rfl⟩
  obtain ⟨a1, hz1⟩ : ∃ z, cntR 1 l = z := ⟨_, rfl⟩
  obtain ⟨a2, hz2⟩ : ∃ z, cntR 2 l = z := ⟨_, rfl⟩
  obtain ⟨a3, hz3⟩ : ∃ z, cntR 3 l = z := ⟨_, rfl⟩
  rw [hz0, hz1, hz2, hz3]
  have HZ := Lib.hid (And.intro hz0 (And.intro hz1 (And.intro hz2 hz3)))
  clear hsl hs hb0 hn hz0 hz1 hz2 hz3
  go_enter Tryz.func25, Tryz.ntmps25
  go_wp2_with fail
  go_loopw [7] (fun iv wr => ∃ i : Nat, iv = .int .i64 i ∧ i ≤ n ∧ Blk wr w.heap.size 34 #[.int .i64 (cntR 0 (l.take i)), .int .i64 (cntR 1 (l.take i)), .int .i64 (cntR 2 (l.take i)), .int .i64 (cntR 3 (l.take i))] ∧ Below w.heap.size w wr) (fun iv _ => n - (intOf iv).toNat)
  case atStart => exact ⟨0, rfl, Nat.zero_le _, H0.out.1, H0.out.2.1⟩
  case round =>
    obtain ⟨i, rfl, hi, hB, hb⟩ := hrel
    by_cases hlt : i < n
    · have hiL : i < l.length := by have := HN.out; omega
      obtain ⟨b, off, rfl, hbb, hcs⟩ := (H0.out.2.2.1.below hb (Nat.le_refl _)) (by omega)
      have c0 := hcs i hiL 0 (by omega)
      have c1 := hcs i hiL 1 (by omega)
      have c2 := hcs i hiL 2 (by omega)
      have c3 := hcs i hiL 3 (by omega)
      have c4 := hcs i hiL 4 (by omega)
      have c5 := hcs i hiL 5 (by omega)
      have c6 := hcs i hiL 6 (by omega)
      have c7 := hcs i hiL 7 (by omega)
      have c8 := hcs i hiL 8 (by omega)
      have c9 := hcs i hiL 9 (by omega)
      have c10 := hcs i hiL 10 (by omega)
      simp only [eCR, List.getElem?_cons_succ, List.getElem?_cons_zero, Nat.add_zero] at c0 c1 c2 c3 c4 c5 c6 c7 c8 c9 c10
      clear hcs
      have hi1 : (i : Int) < n := by omega
      have hsx := H0.out.2.2.2 _ (List.getElem_mem hiL)
      have e0 := cntR_step 0 l i hiL
      have e1 := cntR_step 1 l i hiL
      have e2 := cntR_step 2 l i hiL
      have e3 := cntR_step 3 l i hiL
      have b0 := cntR_le 0 (l.take i)
      have b1 := cntR_le 1 (l.take i)
      have b2 := cntR_le 2 (l.take i)
      have b3 := cntR_le 3 (l.take i)
      rw [List.length_take] at b0 b1 b2 b3
      obtain ⟨⟨q, s, cl, ⟨ak, am, at', ad⟩, ⟨ck, cm, ct, cd⟩⟩, hx⟩ : ∃ x, l[i] = x := ⟨_, rfl⟩
      simp only [hx] at c0 c1 c2 c3 c4 c5 c6 c7 c8 c9 c10 hsx e0 e1 e2 e3
      clear hx
      generalize cntR 0 (l.take i) = a0 at *
      generalize cntR 1 (l.take i) = a1 at *
      generalize cntR 2 (l.take i) = a2 at *
      generalize cntR 3 (l.take i) = a3 at *
      have hba := (Below.refl wr.heap.size wr).alloc (Nat.le_refl _) (.cells #[.string q, .int .i64 s, .int .i64 cl, .int .i64 ak, .int .i64 am, .int .u32 at', .string ad, .int .i64 ck, .int .i64 cm, .int .u32 ct, .string cd] 64)
      have HR := Lib.hid (And.intro (hB.below hba hB.lt) (hb.trans (hba.mono hb.size)))
      have x0 := HR.out.1.cell 0
      have x1 := HR.out.1.cell 1
      have x2 := HR.out.1.cell 2
      have x3 := HR.out.1.cell 3
      simp at x0 x1 x2 x3
      have f0 := HR.out.1.frozen 0
      have f1 := HR.out.1.frozen 1
      have f2 := HR.out.1.frozen 2
      have f3 := HR.out.1.frozen 3
      clear hba hB hb
      rcases hsx with rfl | rfl | rfl | rfl
      · simp only [if_pos, reduceIte, Int.reduceEq, Int.add_zero] at e0 e1 e2 e3
        have hwr : IntKind.i64.wrap (a0 + 1) = a0 + 1 := IntWalk.i64_in _ (by omega)
        have HE := Lib.hid (And.intro e0 (And.intro e1 (And.intro e2 e3)))
        clear e0 e1 e2 e3
        go_wp2_with fail
        go_roundw
        case rel =>
          refine ⟨i + 1, by go_num, by omega, ?_, HR.out.2.setCell (p := ⟨w.heap.size, 0, none⟩) (Nat.le_refl _) _⟩
          rw [HE.out.1, HE.out.2.1, HE.out.2.2.1, HE.out.2.2.2]
          exact HR.out.1.put 0 (.int .i64 (a0 + 1))
        case measure => simp [intOf]; omega
      · simp only [if_pos, reduceIte, Int.reduceEq, Int.add_zero] at e0 e1 e2 e3
        have hwr : IntKind.i64.wrap (a1 + 1) = a1 + 1 := IntWalk.i64_in _ (by omega)
        have HE := Lib.hid (And.intro e0 (And.intro e1 (And.intro e2 e3)))
        clear e0 e1 e2 e3
        go_wp2_with fail
        go_roundw
        case rel =>
          refine ⟨i + 1, by go_num, by omega, ?_, HR.out.2.setCell (p := ⟨w.heap.size, 1, none⟩) (Nat.le_refl _) _⟩
          rw [HE.out.1, HE.out.2.1, HE.out.2.2.1, HE.out.2.2.2]
          exact HR.out.1.put 1 (.int .i64 (a1 + 1))
        case measure => simp [intOf]; omega
      · simp only [if_pos, reduceIte, Int.reduceEq, Int.add_zero] at e0 e1 e2 e3
        have hwr : IntKind.i64.wrap (a2 + 1) = a2 + 1 := IntWalk.i64_in _ (by omega)
        have HE := Lib.hid (And.intro e0 (And.intro e1 (And.intro e2 e3)))
        clear e0 e1 e2 e3
        go_wp2_with fail
        go_roundw
        case rel =>
          refine ⟨i + 1, by go_num, by omega, ?_, HR.out.2.setCell (p := ⟨w.heap.size, 2, none⟩) (Nat.le_refl _) _⟩
          rw [HE.out.1, HE.out.2.1, HE.out.2.2.1, HE.out.2.2.2]
          exact HR.out.1.put 2 (.int .i64 (a2 + 1))
        case measure => simp [intOf]; omega
      · simp only [if_pos, reduceIte, Int.reduceEq, Int.add_zero] at e0 e1 e2 e3
        have hwr : IntKind.i64.wrap (a3 + 1) = a3 + 1 := IntWalk.i64_in _ (by omega)
        have HE := Lib.hid (And.intro e0 (And.intro e1 (And.intro e2 e3)))
        clear e0 e1 e2 e3
        go_wp2_with fail
        go_roundw
        case rel =>
          refine ⟨i + 1, by go_num, by omega, ?_, HR.out.2.setCell (p := ⟨w.heap.size, 3, none⟩) (Nat.le_refl _) _⟩
          rw [HE.out.1, HE.out.2.1, HE.out.2.2.1, HE.out.2.2.2]
          exact HR.out.1.put 3 (.int .i64 (a3 + 1))
        case measure => simp [intOf]; omega
    · obtain rfl : i = n := by omega
      have hf : l.take i = l := List.take_of_length_le (by have := HN.out; omega)
      rw [hf, HZ.out.1, HZ.out.2.1, HZ.out.2.2.1, HZ.out.2.2.2] at hB
      have x0 := hB.cell 0
      have x1 := hB.cell 1
      have x2 := hB.cell 2
      have x3 := hB.cell 3
      simp at x0 x1 x2 x3
      have f0 := hB.frozen 0
      have f1 := hB.frozen 1
      have f2 := hB.frozen 2
      have f3 := hB.frozen 3
      have HR := Lib.hid (And.intro hB hb)
      clear hB hb hf
      go_wp2_with fail
      refine bodyPost_ret (v := .agg #[.int .i64 a0, .int .i64 a1, .int .i64 a2, .int .i64 a3]) (results_cell_row rfl _ _ w.heap.size 34 #[.int .i64 a0, .int .i64 a1, .int .i64 a2, .int .i64 a3] (0, 0) _ rfl ((((HR.out.1.put 0 (.int .i64 a0)).put 1 (.int .i64 a1)).put 2 (.int .i64 a2)).put 3 (.int .i64 a3)) Tryz.underlying34 rfl (by kernel_rfl)) rfl ⟨rfl, ?_⟩
      exact (((HR.out.2.setCell (p := ⟨w.heap.size, 0, none⟩) (Nat.le_refl _) (.int .i64 a0)).setCell (p := ⟨w.heap.size, 1, none⟩) (Nat.le_refl _) (.int .i64 a1)).setCell (p := ⟨w.heap.size, 2, none⟩) (Nat.le_refl _) (.int .i64 a2)).setCell (p := ⟨w.heap.size, 3, none⟩) (Nat.le_refl _) (.int .i64 a3)
end Go.Proofs.YteofiffbobbdmaaGreatDoor
/- XDosRef with names that do not clash with the name texts (made from it by sed). -/
set_option linter.unusedVariables false
namespace Go.Proofs.YteofiffbobbdmaaGreatDoor
open Go.RowKit
open Sw
set_option maxHeartbeats 1000000 in
theorem refDosDays_any (w : World) (y m : Int) (h0 : -9223372036854775808 ≤ y) (h1 : y ≤ 9223372036854775807) :
    Calls Tryz.prog 178 #[.int .i64 y, .int .i64 m] w fun e w' => e = .returned (.int .i64 (daysI y m)) ∧ w = w' := by
  by_cases hy : y < 1980
  · have hd : daysI y m = 0 := by unfold daysI; rw [if_pos (.inl hy)]
    rw [hd]
    go_enter Tryz.func178, Tryz.ntmps178
    go_wp2_with fail
    go_ret
    exact ⟨rfl, rfl⟩
  by_cases hy2 : 2107 < y
  · have hd : daysI y m = 0 := by unfold daysI; rw [if_pos (.inr (.inl hy2))]
    rw [hd]
    go_enter Tryz.func178, Tryz.ntmps178
    go_wp2_with fail
    go_ret
    exact ⟨rfl, rfl⟩
  have HD := Lib.hid (fun (hm : ¬ (m < 1 ∨ 12 < m)) => show daysI y m = (if m = 2 then (if leapI y = true then 29 else 28) else if m = 4 ∨ m = 6 ∨ m = 9 ∨ m = 11 then 30 else 31) by
    unfold daysI
    rw [if_neg (by omega)])
  have hm : m = 1 ∨ m = 3 ∨ m = 4 ∨ m = 5 ∨ m = 6 ∨ m = 7 ∨ m = 8 ∨ m = 9 ∨ m = 10 ∨ m = 11 ∨ m = 12 ∨ m = 2 ∨ m < 1 ∨ 12 < m := by omega
  rcases hm with rfl | rfl | rfl | rfl | rfl | rfl | rfl | rfl | rfl | rfl | rfl | hm
  case inr.inr.inr.inr.inr.inr.inr.inr.inr.inr.inr =>
    rcases hm with rfl | hm
    · have e4 : (y.tmod 4 == 0) = decide (y % 4 = 0) := by
        rw [Bool.eq_iff_iff, beq_iff_eq, decide_eq_true_iff, ← Int.dvd_iff_tmod_eq_zero, ← Int.dvd_iff_emod_eq_zero]
      have hd : daysI y 2 = if leapI y = true then 29 else 28 := by
        unfold daysI
        rw [if_neg (by omega), if_pos rfl]
      unfold leapI at hd
      by_cases h4 : y % 4 = 0
      · have ht : (y.tmod 4 == 0) = true := by rw [e4]; simpa using h4
        by_cases h5 : y = 2100
        · have hn : (y != 2100) = false := by simp [h5]
          have hd' : daysI y 2 = 28 := by rw [hd]; simp [h5]
          rw [hd']
          clear hd hd' e4 h5
          go_enter Tryz.func178, Tryz.ntmps178
          go_wp2_with fail
          go_ret
          exact ⟨rfl, rfl⟩
        · have hn : (y != 2100) = true := by simp [h5]
          have hd' : daysI y 2 = 29 := by rw [hd]; simp [h5, h4]
          rw [hd']
          clear hd hd' e4
          go_enter Tryz.func178, Tryz.ntmps178
          go_wp2_with fail
          go_ret
          exact ⟨rfl, rfl⟩
      · have ht : (y.tmod 4 == 0) = false := by rw [e4]; simpa using h4
        have hd' : daysI y 2 = 28 := by rw [hd]; simp [h4]
        rw [hd']
        clear hd hd' e4
        go_enter Tryz.func178, Tryz.ntmps178
        go_wp2_with fail
        go_ret
        exact ⟨rfl, rfl⟩
    · have hd : daysI y m = 0 := by unfold daysI; rw [if_pos (.inr (.inr hm))]
      rw [hd]
      have t1 : (m == 1) = false := by rw [beq_eq_false_iff_ne]; omega
      have t2 : (m == 2) = false := by rw [beq_eq_false_iff_ne]; omega
      have t3 : (m == 3) = false := by rw [beq_eq_false_iff_ne]; omega
      have t4 : (m == 4) = false := by rw [beq_eq_false_iff_ne]; omega
      have t5 : (m == 5) = false := by rw [beq_eq_false_iff_ne]; omega
      have t6 : (m == 6) = false := by rw [beq_eq_false_iff_ne]; omega
      have t7 : (m == 7) = false := by rw [beq_eq_false_iff_ne]; omega
      have t8 : (m == 8) = false := by rw [beq_eq_false_iff_ne]; omega
      have t9 : (m == 9) = false := by rw [beq_eq_false_iff_ne]; omega
      have t10 : (m == 10) = false := by rw [beq_eq_false_iff_ne]; omega
      have t11 : (m == 11) = false := by rw [beq_eq_false_iff_ne]; omega
      have t12 : (m == 12) = false := by rw [beq_eq_false_iff_ne]; omega
      clear hd hm
      go_enter Tryz.func178, Tryz.ntmps178
      go_wp2_with fail
      go_ret
      exact ⟨rfl, rfl⟩
  all_goals
    have hd := HD.out (by omega)
    simp at hd
    rw [hd]
    clear hd HD
    go_enter Tryz.func178, Tryz.ntmps178
    go_wp2_with fail
    go_ret
    exact ⟨rfl, rfl⟩
theorem refDosSplit_any (w : World) (t : Int) (h0 : 0 ≤ t) (h1 : t < 4294967296) :
    Calls Tryz.prog 160 #[.int .u32 t] w fun e w' => e = .returned (.agg (Dt.v (splitD t))) ∧ Below w.heap.size w w' := by
  go_enter Tryz.func160, Tryz.ntmps160
  have hrow : Dt.v (splitD t) = #[Value.int IntKind.i64 (1980 + t / 32 / 64 / 32 / 32 / 16), Value.int IntKind.i64 (t / 32 / 64 / 32 / 32 % 16), Value.int IntKind.i64 (t / 32 / 64 / 32 % 32), Value.int IntKind.i64 (t / 32 / 64 % 32), Value.int IntKind.i64 (t / 32 % 64), Value.int IntKind.i64 (2 * (t % 32))] := by
    have e1 : t / 32 / 64 / 32 / 32 / 16 = t / 33554432 := by omega
    have e2 : t / 32 / 64 / 32 / 32 = t / 2097152 := by omega
    have e3 : t / 32 / 64 / 32 = t / 65536 := by omega
    have e4 : t / 32 / 64 = t / 2048 := by omega
    rw [e1, e2, e3, e4]; rfl
  rw [hrow]
  have HROW := Lib.hid hrow; clear hrow
  go_wp2_with fail
  refine bodyPost_ret (results_cell_row rfl _ _ w.heap.size 213 _ (0, 0) _ rfl ((Blk.new w _ _).alloc _) Tryz.underlying213 rfl (by kernel_rfl)) rfl ⟨rfl, ((Below.refl w.heap.size w).alloc (Nat.le_refl _) _).alloc (by simp) _⟩
set_option maxRecDepth 100000 in
set_option maxHeartbeats 40000000 in
theorem refDosRight_any (w : World) (x : Dt) (hx : Dt.In x) :
    Calls Tryz.prog 159 #[.agg (Dt.v x)] w fun e w' => e = .returned (.bool (decide x.Ok)) ∧ Below w.heap.size w w' := by
  have hT : TimeAt w w.heap.size 213 x (w.alloc (Obj.cells (Dt.v x) 213)) := ⟨Blk.new _ _ _, (Below.refl _ _).alloc (Nat.le_refl _) _⟩
  have HTD := Lib.hid (show TimeAt w w.heap.size 213 x (w.alloc (Obj.cells (Dt.v x) 213)).drew from ⟨hT.1, hT.2.drew⟩)
  have hD := fun W => refDosDays_any W x.y x.m hx.y0 hx.y1
  have hdl := daysI_le x.y x.m
  have hOk : x.Ok = (1 ≤ x.d ∧ x.d ≤ daysI x.y x.m ∧ 0 ≤ x.h ∧ x.h < 24 ∧ 0 ≤ x.mi ∧ x.mi < 60 ∧ 0 ≤ x.s ∧ x.s < 60 ∧ x.s % 2 = 0) := rfl
  generalize hdy : daysI x.y x.m = dy at *
  have HD := Lib.hid hD; clear hD
  have HOK := Lib.hid hOk; clear hOk
  have hm2 : (x.s.tmod 2 == 0) = decide (x.s % 2 = 0) := by rw [Bool.eq_iff_iff, beq_iff_eq, decide_eq_true_iff, ← Int.dvd_iff_tmod_eq_zero, ← Int.dvd_iff_emod_eq_zero]
  have HM2 := Lib.hid hm2; clear hm2
  clear hT hdy
  have q0 : ∀ n : Held (TimeAt w w.heap.size 213 x), (HeldW n).cell? ⟨w.heap.size, 0, none⟩ = some (.int .i64 x.y) := fun n => (HeldW_spec n).1.cell 0
  have q1 : ∀ n : Held (TimeAt w w.heap.size 213 x), (HeldW n).cell? ⟨w.heap.size, 1, none⟩ = some (.int .i64 x.m) := fun n => (HeldW_spec n).1.cell 1
  have q2 : ∀ n : Held (TimeAt w w.heap.size 213 x), (HeldW n).cell? ⟨w.heap.size, 2, none⟩ = some (.int .i64 x.d) := fun n => (HeldW_spec n).1.cell 2
  have q3 : ∀ n : Held (TimeAt w w.heap.size 213 x), (HeldW n).cell? ⟨w.heap.size, 3, none⟩ = some (.int .i64 x.h) := fun n => (HeldW_spec n).1.cell 3
  have q4 : ∀ n : Held (TimeAt w w.heap.size 213 x), (HeldW n).cell? ⟨w.heap.size, 4, none⟩ = some (.int .i64 x.mi) := fun n => (HeldW_spec n).1.cell 4
  have q5 : ∀ n : Held (TimeAt w w.heap.size 213 x), (HeldW n).cell? ⟨w.heap.size, 5, none⟩ = some (.int .i64 x.s) := fun n => (HeldW_spec n).1.cell 5
  haveI : Nonempty (Held (TimeAt w w.heap.size 213 x)) := held_some HTD.out
  obtain ⟨y0, y1, m0, m1, d0, d1, hh0, hh1, i0, i1, s0, s1⟩ := hx
  by_cases c0 : 1 ≤ x.d
  · skip
    by_cases c1 : x.d ≤ dy
    · skip
      by_cases c2 : 0 ≤ x.h
      · skip
        by_cases c3 : x.h ≤ 23
        · skip
          by_cases c4 : 0 ≤ x.mi
          · skip
            by_cases c5 : x.mi ≤ 59
            · skip
              by_cases c6 : 0 ≤ x.s
              · skip
                by_cases c7 : x.s ≤ 58
                · skip
                  by_cases c8 : x.s % 2 = 0
                  · skip
                    have t2 : (x.s.tmod 2 == 0) = true := by rw [HM2.out]; exact decide_eq_true c8
                    have HR := Lib.hid (show decide x.Ok = true by rw [decide_eq_true_iff, HOK.out]; omega)
                    go_enter Tryz.func159, Tryz.ntmps159
                    go_wp2_with fail
                    refine wp_region_class (TimeAt w w.heap.size 213 x) (by kernel_rfl) (by kernel_rfl) HTD.out ?_
                    repeat (go_big_quiet_step (with_reducible exact held_same (HD.out _)))
                    refine wpQuiet_nil ?_
                    rintro _ ⟨n, rfl⟩
                    go_wp2_with fail
                    go_ret
                    rw [HR.out]
                    exact ⟨by first | (simp; done) | (simp; omega), (HeldW_spec n).2⟩
                  · skip
                    have t2 : (x.s.tmod 2 == 0) = false := by rw [HM2.out]; exact decide_eq_false c8
                    have HR := Lib.hid (show decide x.Ok = false by rw [decide_eq_false_iff_not, HOK.out]; omega)
                    go_enter Tryz.func159, Tryz.ntmps159
                    go_wp2_with fail
                    refine wp_region_class (TimeAt w w.heap.size 213 x) (by kernel_rfl) (by kernel_rfl) HTD.out ?_
                    repeat (go_big_quiet_step (with_reducible exact held_same (HD.out _)))
                    refine wpQuiet_nil ?_
                    rintro _ ⟨n, rfl⟩
                    go_wp2_with fail
                    go_ret
                    rw [HR.out]
                    exact ⟨by first | (simp; done) | (simp; omega), (HeldW_spec n).2⟩
                · skip
                  have t7f : decide (x.s ≤ 58) = false := decide_eq_false c7
                  have HR := Lib.hid (show decide x.Ok = false by rw [decide_eq_false_iff_not, HOK.out]; omega)
                  go_enter Tryz.func159, Tryz.ntmps159
                  go_wp2_with fail
                  refine wp_region_class (TimeAt w w.heap.size 213 x) (by kernel_rfl) (by kernel_rfl) HTD.out ?_
                  repeat (go_big_quiet_step (with_reducible exact held_same (HD.out _)))
                  refine wpQuiet_nil ?_
                  rintro _ ⟨n, rfl⟩
                  go_wp2_with fail
                  go_ret
                  rw [HR.out]
                  exact ⟨by first | (simp; done) | (simp; omega), (HeldW_spec n).2⟩
              · skip
                have t6f : decide (0 ≤ x.s) = false := decide_eq_false c6
                have HR := Lib.hid (show decide x.Ok = false by rw [decide_eq_false_iff_not, HOK.out]; omega)
                go_enter Tryz.func159, Tryz.ntmps159
                go_wp2_with fail
                refine wp_region_class (TimeAt w w.heap.size 213 x) (by kernel_rfl) (by kernel_rfl) HTD.out ?_
                repeat (go_big_quiet_step (with_reducible exact held_same (HD.out _)))
                refine wpQuiet_nil ?_
                rintro _ ⟨n, rfl⟩
                go_wp2_with fail
                go_ret
                rw [HR.out]
                exact ⟨by first | (simp; done) | (simp; omega), (HeldW_spec n).2⟩
            · skip
              have t5f : decide (x.mi ≤ 59) = false := decide_eq_false c5
              have HR := Lib.hid (show decide x.Ok = false by rw [decide_eq_false_iff_not, HOK.out]; omega)
              go_enter Tryz.func159, Tryz.ntmps159
              go_wp2_with fail
              refine wp_region_class (TimeAt w w.heap.size 213 x) (by kernel_rfl) (by kernel_rfl) HTD.out ?_
              repeat (go_big_quiet_step (with_reducible exact held_same (HD.out _)))
              refine wpQuiet_nil ?_
              rintro _ ⟨n, rfl⟩
              go_wp2_with fail
              go_ret
              rw [HR.out]
              exact ⟨by first | (simp; done) | (simp; omega), (HeldW_spec n).2⟩
          · skip
            have t4f : decide (0 ≤ x.mi) = false := decide_eq_false c4
            have HR := Lib.hid (show decide x.Ok = false by rw [decide_eq_false_iff_not, HOK.out]; omega)
            go_enter Tryz.func159, Tryz.ntmps159
            go_wp2_with fail
            refine wp_region_class (TimeAt w w.heap.size 213 x) (by kernel_rfl) (by kernel_rfl) HTD.out ?_
            repeat (go_big_quiet_step (with_reducible exact held_same (HD.out _)))
            refine wpQuiet_nil ?_
            rintro _ ⟨n, rfl⟩
            go_wp2_with fail
            go_ret
            rw [HR.out]
            exact ⟨by first | (simp; done) | (simp; omega), (HeldW_spec n).2⟩
        · skip
          have t3f : decide (x.h ≤ 23) = false := decide_eq_false c3
          have HR := Lib.hid (show decide x.Ok = false by rw [decide_eq_false_iff_not, HOK.out]; omega)
          go_enter Tryz.func159, Tryz.ntmps159
          go_wp2_with fail
          refine wp_region_class (TimeAt w w.heap.size 213 x) (by kernel_rfl) (by kernel_rfl) HTD.out ?_
          repeat (go_big_quiet_step (with_reducible exact held_same (HD.out _)))
          refine wpQuiet_nil ?_
          rintro _ ⟨n, rfl⟩
          go_wp2_with fail
          go_ret
          rw [HR.out]
          exact ⟨by first | (simp; done) | (simp; omega), (HeldW_spec n).2⟩
      · skip
        have t2f : decide (0 ≤ x.h) = false := decide_eq_false c2
        have HR := Lib.hid (show decide x.Ok = false by rw [decide_eq_false_iff_not, HOK.out]; omega)
        go_enter Tryz.func159, Tryz.ntmps159
        go_wp2_with fail
        refine wp_region_class (TimeAt w w.heap.size 213 x) (by kernel_rfl) (by kernel_rfl) HTD.out ?_
        repeat (go_big_quiet_step (with_reducible exact held_same (HD.out _)))
        refine wpQuiet_nil ?_
        rintro _ ⟨n, rfl⟩
        go_wp2_with fail
        go_ret
        rw [HR.out]
        exact ⟨by first | (simp; done) | (simp; omega), (HeldW_spec n).2⟩
    · skip
      have t1f : decide (x.d ≤ dy) = false := decide_eq_false c1
      have HR := Lib.hid (show decide x.Ok = false by rw [decide_eq_false_iff_not, HOK.out]; omega)
      go_enter Tryz.func159, Tryz.ntmps159
      go_wp2_with fail
      refine wp_region_class (TimeAt w w.heap.size 213 x) (by kernel_rfl) (by kernel_rfl) HTD.out ?_
      repeat (go_big_quiet_step (with_reducible exact held_same (HD.out _)))
      refine wpQuiet_nil ?_
      rintro _ ⟨n, rfl⟩
      go_wp2_with fail
      go_ret
      rw [HR.out]
      exact ⟨by first | (simp; done) | (simp; omega), (HeldW_spec n).2⟩
  · skip
    have t0f : decide (1 ≤ x.d) = false := decide_eq_false c0
    have HR := Lib.hid (show decide x.Ok = false by rw [decide_eq_false_iff_not, HOK.out]; omega)
    go_enter Tryz.func159, Tryz.ntmps159
    go_wp2_with fail
    refine wp_region_class (TimeAt w w.heap.size 213 x) (by kernel_rfl) (by kernel_rfl) HTD.out ?_
    repeat (go_big_quiet_step (with_reducible exact held_same (HD.out _)))
    refine wpQuiet_nil ?_
    rintro _ ⟨n, rfl⟩
    go_wp2_with fail
    go_ret
    rw [HR.out]
    exact ⟨by first | (simp; done) | (simp; omega), (HeldW_spec n).2⟩
end Go.Proofs.YteofiffbobbdmaaGreatDoor
