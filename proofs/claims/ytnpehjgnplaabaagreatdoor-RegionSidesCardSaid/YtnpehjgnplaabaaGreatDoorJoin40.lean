/- Several texts, joined for the limit of sixty files; each one opens with its own comment. -/
import Derived.Test.YtnpehjgnplaabaaGreatDoorJoin37
import Derived.Test.YtnpehjgnplaabaaGreatDoorJoin39
import Derived.Test.YtnpehjgnplaabaaGreatDoorJoin20
import Derived.Test.YtnpehjgnplaabaaGreatDoorJoin28
import Derived.Test.YtnpehjgnplaabaaGreatDoorJoin30
/- Several texts, joined for the limit of sixty files; each one opens with its own comment. -/
/- archive.Of: the marks on which two trees agree. -/
set_option linter.unusedVariables false
set_option linter.unusedSimpArgs false
namespace Sw
open Go
/-- what a word of the join gives -/
def agOf (t : JnEP) : Option MkE := if t.2.1.isSome = true ∧ t.2.2.isSome = true ∧ t.2.1.getD ⟨0, 0, 0, 0, 0⟩ = t.2.2.getD ⟨0, 0, 0, 0, 0⟩ then some (t.1, t.2.1.getD ⟨0, 0, 0, 0, 0⟩) else none
/-- the marks of one row that the other one has -/
def agreeM (L M : List MkE) : List MkE := L.filter fun m => decide (findM M m.1 = some m.2)
theorem getN_findM {L : List MkE} (h : Up ordS L) (p : ByteArray) : getN ordS p L = findM L p := by
  rw [get_find ordS_ord p L h]
  unfold findM
  congr 2
  funext e
  simp [ordS_ord.iff]
theorem findM_mem {L : List MkE} {p : ByteArray} {a : Pr} (h : findM L p = some a) : (p, a) ∈ L := by
  unfold findM at h
  rw [Option.map_eq_some_iff] at h
  obtain ⟨⟨q, b⟩, h1, h2⟩ := h
  have h3 := List.mem_of_find?_eq_some h1
  have h4 := List.find?_some h1
  simp only [decide_eq_true_eq] at h4
  simp only at h2 h4
  rw [h4, h2] at h3
  exact h3
theorem fm_up {g : ByteArray → Option MkE} (hg : ∀ p e, g p = some e → e.1 = p) : ∀ {P : List ByteArray}, Rise P → Up ordS (P.filterMap g)
  | [], _ => List.Pairwise.nil
  | p :: r, h => by
    have hr := List.pairwise_cons.1 h
    have ih := fm_up hg hr.2
    rw [List.filterMap_cons]
    cases hp : g p with
    | none => exact ih
    | some e =>
      refine List.pairwise_cons.2 ⟨fun e' he' => ?_, ih⟩
      obtain ⟨q, hq, hq2⟩ := List.mem_filterMap.1 he'
      rw [hg p e hp, hg q e' hq2]
      exact hr.1 q hq
theorem ag_join {L M : List MkE} (hL : Up ordS L) (hM : Up ordS M) : (joinL ordS L M).filterMap agOf = agreeM L M := by
  rw [join_pathsP hL hM, List.filterMap_map]
  refine up_ext ordS_ord _ _ (fm_up (fun p e h => ?_) (pathsS_rise _)) (by unfold agreeM; exact List.Pairwise.filter _ hL) (fun e => ?_)
  · simp only [Function.comp, agOf] at h
    split at h
    · cases h; rfl
    · cases h
  · rw [List.mem_filterMap]
    unfold agreeM
    rw [List.mem_filter, decide_eq_true_eq]
    constructor
    · rintro ⟨p, _, h⟩
      simp only [Function.comp, agOf] at h
      split at h
      · rename_i hc
        cases h
        obtain ⟨h1, h2, h3⟩ := hc
        rw [getN_findM hL] at h1 h3 ⊢
        rw [getN_findM hM] at h2 h3
        obtain ⟨a, ha⟩ := Option.isSome_iff_exists.1 h1
        obtain ⟨b, hb⟩ := Option.isSome_iff_exists.1 h2
        rw [ha, hb] at h3
        rw [ha]
        simp only [Option.getD_some] at h3 ⊢
        exact ⟨findM_mem ha, by rw [hb, h3]⟩
      · cases h
    · rintro ⟨h1, h2⟩
      refine ⟨e.1, (pathsS_mem _ _).2 (List.mem_append_left _ (List.mem_map.2 ⟨e, h1, rfl⟩)), ?_⟩
      have h3 := findM_up hL h1
      simp only [Function.comp, agOf, getN_findM hL, getN_findM hM, h2, h3]
      simp
end Sw
namespace Go.Proofs.YtnpehjgnplaabaaGreatDoor
open Go Go.RowKit Go.Shelf
open Sw
attribute [local go_sem] Oper.semAt_some
/-- behind some words of the join -/
structure AoI (T b1 b2 b3 : Nat) (v1 v2 : Value) (pre : List JnEP) (V : World) : Prop where
  o : ∃ o, Blk V T 22 #[o] ∧ OwnMk V T o (pre.filterMap agOf)
  b1 : Blk V b1 198 #[v1]
  b2 : Blk V b2 198 #[v2]
  b3 : Blk V b3 108 #[ordFSP]
  r1 : RowIn V 204 v1
  r2 : RowIn V 204 v2
theorem RowIn.ownP {W W' : World} {row : Option Nat} {te : TypeId} {v : Value} (h : RowIn W te v) (hg : W.grownBy W' row) (hr : ∀ r, row = some r → ∃ o : Obj, W.heap[r]? = some o ∧ o.isCells = false) : RowIn W' te v := fun g hv => by
  obtain ⟨cs, hc⟩ := h g hv
  exact ⟨cs, blk_ownF hc hg hr⟩
theorem AoI.own (T b1 b2 b3 : Nat) (v1 v2 : Value) : Own (AoI T b1 b2 b3 v1 v2) := fun _ A B row h hg hr => ⟨by obtain ⟨o, h1, h2⟩ := h.o; exact ⟨o, blk_ownF h1 hg hr, own_ownF h2 hg hr⟩, blk_ownF h.b1 hg hr, blk_ownF h.b2 hg hr, blk_ownF h.b3 hg hr, h.r1.ownP hg hr, h.r2.ownP hg hr⟩
theorem AoI.below {T b1 b2 b3 : Nat} {v1 v2 : Value} {pre : List JnEP} {A B : World} (h : AoI T b1 b2 b3 v1 v2 pre A) (hb : Below A.heap.size A B) : AoI T b1 b2 b3 v1 v2 pre B := ⟨by obtain ⟨o, h1, h2⟩ := h.o; exact ⟨o, h1.below hb h1.lt, h2.below hb⟩, h.b1.below hb h.b1.lt, h.b2.below hb h.b2.lt, h.b3.below hb h.b3.lt, h.r1.below hb, h.r2.below hb⟩
theorem AoI.keep {T b1 b2 b3 : Nat} {v1 v2 : Value} {pre : List JnEP} {A B : World} (h : AoI T b1 b2 b3 v1 v2 pre A) (hb : Below A.heap.size A B) : KeepP (JoinK b1 b2 b3 v1 v2) A B := ⟨hb.size, fun g hg => hb.block g (by
  rcases hg with rfl | rfl | rfl | hg | hg
  · exact h.b1.lt
  · exact h.b2.lt
  · exact h.b3.lt
  · exact h.r1.lt g hg
  · exact h.r2.lt g hg)⟩
theorem fmA_one (pre : List JnEP) (x : JnEP) : (pre ++ [x]).filterMap agOf = pre.filterMap agOf ++ (agOf x).toList := by
  rw [List.filterMap_append]
  cases h : agOf x with
  | none => simp [h]
  | some c => simp [h]
set_option maxRecDepth 100000 in
set_option maxHeartbeats 8000000 in
theorem archOf_any (w : World) (bt bmt bt2 bmt2 : Nat) (xs ys : List NE) (hT : TreeAt w bt bmt xs) (hT2 : TreeAt w bt2 bmt2 ys) (hxl : xs.length ≤ 1000) (hyl : ys.length ≤ 1000) (hxd : ∀ e ∈ xs, e.2.data.size ≤ maxLen) (hyd : ∀ e ∈ ys, e.2.data.size ≤ maxLen) :
    Calls Tryz.prog 63 #[.pointer (some ⟨bt, 0, none⟩), .pointer (some ⟨bt2, 0, none⟩)] w fun e w' => ∃ r, e = .returned r ∧ OwnMk w' w.heap.size r (agreeM (marksT xs) (marksT ys)) ∧ Below w.heap.size w w' := by
  have hup1 := marksT_up hT.map.up
  have hup2 := marksT_up hT2.map.up
  have haj := ag_join hup1 hup2
  have hxp : ∀ e ∈ xs, e.1.size ≤ 90000 := fun e he => hT.ok (n := e.2) he
  have hyp : ∀ e ∈ ys, e.1.size ≤ 90000 := fun e he => hT2.ok (n := e.2) he
  have b0 := Blk.new w 22 #[.slice none 0 0]
  have hB : Below w.heap.size w (w.alloc (.cells #[.slice none 0 0] 22)) := (Below.refl _ w).alloc (Nat.le_refl _) _
  have HM1 := Lib.hid (marks_any _ bt bmt xs (hT.below hB) hxl hxp hxd)
  have HM2 := Lib.hid (fun W (h : TreeAt W bt2 bmt2 ys) => marks_any W bt2 bmt2 ys h hyl hyp hyd)
  have hT2B := hT2.below hB
  have hml1 : (marksT xs).length ≤ 1000 := by unfold marksT; rw [List.length_map]; exact hxl
  have hml2 : (marksT ys).length ≤ 1000 := by unfold marksT; rw [List.length_map]; exact hyl
  have hmp1 : ∀ e ∈ marksT xs, okS e.1 := fun e he => by obtain ⟨x, hx, rfl⟩ := List.mem_map.1 he; exact hxp x hx
  have hmp2 : ∀ e ∈ marksT ys, okS e.1 := fun e he => by obtain ⟨x, hx, rfl⟩ := List.mem_map.1 he; exact hyp x hx
  have HX := Lib.hid (And.intro hml1 (And.intro hml2 (And.intro hmp1 hmp2)))
  have HAJ := Lib.hid haj
  clear hT hT2 hxl hyl hxp hyp hxd hyd hml1 hml2 hmp1 hmp2 haj hup1 hup2
  generalize agreeM (marksT xs) (marksT ys) = ANS at *
  generalize marksT xs = L1 at *
  generalize marksT ys = L2 at *
  refine callsIn_wide.1 (?_ : CallsIn Fence.wide 9 _ _ _ _ _)
  refine callsIn_of_wp_marks Tryz.func63 rfl trivial ?_ rfl
  simp only [Tryz.ntmps63, List.size_toArray, List.length_cons, List.length_nil, Nat.reduceAdd, Nat.reduceSub, Array.replicate_succ, Array.replicate_zero, List.push_toArray, List.append_toArray, List.nil_append, List.cons_append]
  obtain ⟨w1, hw1⟩ : ∃ w1, w.alloc (.cells #[.slice none 0 0] 22) = w1 := ⟨_, rfl⟩
  rw [hw1] at b0 hB HM1 hT2B
  have H0 := Lib.hid (And.intro b0 (And.intro hB hT2B)); clear b0 hB hT2B
  have HW1 := Lib.hid hw1
  clear hw1
  gi_wp2
  rw [HW1.out]
  refine ⟨trivial, (callsIn_wide.2 HM1.out).mono ?_⟩
  rintro e w2 ⟨m1, rfl, hm1, -, hb2⟩
  have H2 := Lib.hid (And.intro (H0.out.1.below hb2 H0.out.1.lt) (And.intro (H0.out.2.1.trans (hb2.mono H0.out.2.1.size)) (And.intro hm1 (H0.out.2.2.below hb2))))
  clear hb2 hm1 HM1 H0 HW1
  gi_wp2
  refine ⟨trivial, (callsIn_wide.2 (HM2.out w2 H2.out.2.2.2)).mono ?_⟩
  rintro e w3 ⟨m2, rfl, hm2, -, hb3⟩
  have H3 := Lib.hid (And.intro (H2.out.1.below hb3 H2.out.1.lt) (And.intro (H2.out.2.1.trans (hb3.mono H2.out.2.1.size)) (And.intro (H2.out.2.2.1.below hb3) hm2)))
  clear hb3 hm2 HM2 H2
  gi_wp2
  refine ⟨trivial, (callsIn_wide.2 (joinOwnSP_any w3 m1 m2 L1 L2 H3.out.2.2.1 H3.out.2.2.2)).mono ?_⟩
  rintro e w4 ⟨b1, b2, b3, v1, v2, rfl, B1, B2, B3, L1', L2', R1, R2, hb4⟩
  have hB0 := H3.out.1.below hb4 H3.out.1.lt
  have hBw := H3.out.2.1.trans (hb4.mono H3.out.2.1.size)
  obtain ⟨T, hTe⟩ : ∃ T, T = w.heap.size := ⟨_, rfl⟩
  rw [← hTe] at hB0 hBw ⊢
  have HTE := Lib.hid hTe; clear hTe
  have HT := Lib.hid (joinSP_tells 8 (by omega) b1 b2 b3 v1 v2 L1 L2 w4 B1 B2 B3 L1' L2' R1.lt R2.lt (by have := HX.out.1; omega) (by have := HX.out.2.1; omega) HX.out.2.2.1 HX.out.2.2.2)
  have hKK : ∀ g, JoinK b1 b2 b3 v1 v2 g → g < w4.heap.size := fun g hg => by
    rcases hg with rfl | rfl | rfl | h | h
    · exact B1.lt
    · exact B2.lt
    · exact B3.lt
    · exact R1.lt g h
    · exact R2.lt g h
  have HI0 := Lib.hid (show AoI T b1 b2 b3 v1 v2 [] w4 ∧ Below T w w4 from ⟨⟨⟨_, hB0, World.ownsRow_nil _ _ _ _⟩, B1, B2, B3, R1, R2⟩, hBw⟩)
  have hz4 : T < w4.heap.size := hB0.lt
  have hjl : (joinL ordS L1 L2).length ≤ 2000 := Nat.le_trans (joinL_len _ _) (by have := HX.out.1; have := HX.out.2.1; omega)
  clear hb4 hB0 hBw B1 B2 B3 L1' L2' R1 R2 H3
  gi_wp2
  refine wpIn_rangeFunc_tellW (Mine := fun _ => False) (fun _ h => h.elim) rfl (by omega) (gf := 142) (lb := #[.pointer (some ⟨b1, 0, none⟩), .pointer (some ⟨b2, 0, none⟩), .pointer (some ⟨b3, 0, none⟩)]) rfl trivial (enters_of Tryz.func142 (by kernel_rfl) rfl)
    HT.out KeepP.trans (fun W l o o' hl h _ _ => keepP_b hKK W l _ _ hl h (by assumption) (by assumption)) (Below.refl _ _) (fun _ => rfl)
    (fun pre W => AoI T b1 b2 b3 v1 v2 pre W ∧ Below T w W)
    (fun c pre W => False)
    (OwnM.of_none (OwnFrom.and (Own.from (AoI.own T b1 b2 b3 v1 v2) _) (ownFrom_below (by have := HTE.out; omega) (by omega))))
    (fun c => OwnM.of_none (fun _ _ _ _ hs _ _ => hs.elim))
    HI0.out
    ?a1 (fun x W => W.alloc (.cells (pCSP x.2) 164))
    (fun x n₀ pre W => (AoI T b1 b2 b3 v1 v2 pre W ∧ Below T w W) ∧ Blk W n₀ 164 (pCSP x.2)) (fun x n₀ => OwnM.of_none (OwnFrom.and (OwnFrom.and (Own.from (AoI.own T b1 b2 b3 v1 v2) _) (ownFrom_below (by have := HTE.out; omega) (by omega))) (Own.from (fun _ A B row hs hg hr => blk_ownF hs hg hr) _))) ?made ?assign ?body ?done ?stop
  case assign =>
    intro l x n0 W hn K hK
    simp only [pCSP]
    gi_wp2
    exact hK
  case made =>
    rintro pre x W ⟨hI, hB⟩ hTl
    have hba := (Below.refl W.heap.size W).alloc (Nat.le_refl _) (.cells (pCSP x.2) 164)
    obtain ⟨o, c0, _⟩ := hI.o
    exact ⟨⟨⟨hI.below hba, hB.alloc (Nat.le_of_lt c0.lt) _⟩, Blk.new _ _ _⟩, keeps_belowF hba, hI.keep hba⟩
  case body =>
    rintro l pre ⟨p, x, y⟩ n₀ W ⟨⟨hI, hB⟩, hX⟩ hTl
    have hpl : (pre.filterMap agOf).length + 1 ≤ 2001 := by
      obtain ⟨r, hr⟩ := hTl
      have h1 := congrArg List.length hr
      have h2 := List.length_filterMap_le agOf pre
      simp only [List.length_append, List.length_cons, List.length_nil] at h1
      omega
    have hfo := fmA_one pre (p, x, y)
    have hag : agOf (p, x, y) = if x.isSome = true ∧ y.isSome = true ∧ x.getD ⟨0, 0, 0, 0, 0⟩ = y.getD ⟨0, 0, 0, 0, 0⟩ then some (p, x.getD ⟨0, 0, 0, 0, 0⟩) else none := rfl
    rw [hag] at hfo
    clear hag hTl
    dsimp only [pCSP] at hX
    obtain ⟨a, ha⟩ : ∃ a, x.getD ⟨0, 0, 0, 0, 0⟩ = a := ⟨_, rfl⟩
    obtain ⟨b, hb⟩ : ∃ b, y.getD ⟨0, 0, 0, 0, 0⟩ = b := ⟨_, rfl⟩
    simp only [ha, hb] at hX hfo
    generalize x.isSome = xi at *
    generalize y.isSome = yi at *
    have hq := fun W => eq_print a b W
    obtain ⟨E, hE⟩ : ∃ E, decide (a = b) = E := ⟨_, rfl⟩
    simp only [hE] at hq
    obtain ⟨ak, am, at', az, au⟩ := a
    obtain ⟨ck, cm, ct, cz, cu⟩ := b
    simp only at hX
    simp only [Pr.c] at hq
    have z0 := hX.cell 0
    have z1 := hX.cell 1
    have z2 := hX.cell 2
    have z3 := hX.cell 3
    have z4 := hX.cell 4
    have z5 := hX.cell 5
    have z6 := hX.cell 6
    have z7 := hX.cell 7
    have z8 := hX.cell 8
    have z9 := hX.cell 9
    have z10 := hX.cell 10
    have z11 := hX.cell 11
    simp only [List.getElem?_toArray, List.getElem?_cons_succ, List.getElem?_cons_zero] at z0 z1 z2 z3 z4 z5 z6 z7 z8 z9 z10 z11
    have HF := Lib.hid hfo
    have HIB := Lib.hid (And.intro hI (And.intro hB hE))
    clear hX ha hb hfo hE hI hB
    cases xi with
    | false =>
      have hno : (pre ++ [((p, x, y) : JnEP)]).filterMap agOf = pre.filterMap agOf := by rw [HF.out, if_neg (fun h => by cases h.1)]; exact List.append_nil _
      have HNO := Lib.hid hno
      clear hno
      gi_wp2
      refine ⟨keeps_belowF (Below.refl _ W), HIB.out.1.keep (Below.refl _ W), ⟨?_, HIB.out.1.b1, HIB.out.1.b2, HIB.out.1.b3, HIB.out.1.r1, HIB.out.1.r2⟩, HIB.out.2.1⟩
      rw [HNO.out]
      exact HIB.out.1.o
    | true =>
      cases yi with
      | false =>
        have hno : (pre ++ [((p, x, y) : JnEP)]).filterMap agOf = pre.filterMap agOf := by rw [HF.out, if_neg (fun h => by cases h.2.1)]; exact List.append_nil _
        have HNO := Lib.hid hno
        clear hno
        gi_wp2
        refine ⟨keeps_belowF (Below.refl _ W), HIB.out.1.keep (Below.refl _ W), ⟨?_, HIB.out.1.b1, HIB.out.1.b2, HIB.out.1.b3, HIB.out.1.r1, HIB.out.1.r2⟩, HIB.out.2.1⟩
        rw [HNO.out]
        exact HIB.out.1.o
      | true =>
        cases E with
        | false =>
          have hno : (pre ++ [((p, x, y) : JnEP)]).filterMap agOf = pre.filterMap agOf := by rw [HF.out, if_neg (fun h => of_decide_eq_false HIB.out.2.2 h.2.2)]; exact List.append_nil _
          have HNO := Lib.hid hno
          clear hno
          gi_wp2
          refine ⟨keeps_belowF (Below.refl _ W), HIB.out.1.keep (Below.refl _ W), ⟨?_, HIB.out.1.b1, HIB.out.1.b2, HIB.out.1.b3, HIB.out.1.r1, HIB.out.1.r2⟩, HIB.out.2.1⟩
          rw [HNO.out]
          exact HIB.out.1.o
        | true =>
          obtain ⟨o, d1, ho⟩ := HIB.out.1.o
          have hyes : (pre ++ [((p, x, y) : JnEP)]).filterMap agOf = pre.filterMap agOf ++ [(p, ⟨ak, am, at', az, au⟩)] := by rw [HF.out, if_pos ⟨rfl, rfl, of_decide_eq_true HIB.out.2.2⟩]; rfl
          have HYES := Lib.hid hyes
          clear hyes
          generalize hn : pre.filterMap agOf = K at *
          obtain ⟨n, hn2⟩ : ∃ n, K.length = n := ⟨_, rfl⟩
          have HN := Lib.hid hn2
          have m1 := d1.cell 0
          have f1 := d1.frozen 0
          simp at m1
          unfold OwnMk at ho
          rw [hn2] at ho hpl
          obtain ⟨A3, c3, rfl, _, _, _⟩ := SlV_of_any ho
          have hTW := Nat.le_of_lt d1.lt
          have HH := Lib.hid (And.intro d1 ho)
          clear d1 ho hn hn2
          gi_wp2_with (gi_at_builtin; refine wpListIn_app rfl _ _ 22 rfl T 63 (.agg #[.string ⟨#[]⟩, .int .i64 0, .int .i64 0, .int .u32 0, .int .i64 0, .int .u32 0]) 6 56 Tryz.underlying22 infoMk rfl (by decide) _ n _ rfl (HH.out.2.alloc _) W.heap.size 1 #[.string p, .int .i64 ak, .int .i64 am, .int .u32 at', .int .i64 az, .int .u32 au] 63 rfl (Blk.new _ _ _) rfl (by simp [Value.oneCell']) (by omega) (by decide) (by simp; omega) _ rfl ?_; intro g cap w5 hown1 hgrow1 hat hlt1; have hb5 := app_pre HH.out.1 HH.out.2 ((Below.refl _ _).alloc (Nat.le_refl _) _) hgrow1 (by decide); have c5 := hb5.cell 0; have f5 := hb5.frozen 0; simp at c5)
          have hA := app_body HH.out.1 HH.out.2 ((Below.refl _ _).alloc (Nat.le_refl _) _) hgrow1 hown1 (by omega) (Nat.le_refl _) (by decide)
          have far := fun g' t cs (h : Blk W g' t cs) (ht : ¬ t = 63) (ht2 : ¬ t = 22) => hA.far g' t cs h ht (fun e => ht2 (by subst e; exact hA.typ t cs h))
          have same := fun g' t cs (h : Blk W g' t cs) (ht : ¬ t = 63) (ht2 : ¬ t = 22) => (by have h2 := far g' t cs h ht ht2; unfold Blk at h h2; exact h2.trans h.symm)
          have h2 := HIB.out.1
          refine ⟨hA.keeps, ⟨hA.below.size, fun g' hg' => ?_⟩, ⟨⟨_, hA.box, ?_⟩, far _ _ _ h2.b1 (by decide) (by decide), far _ _ _ h2.b2 (by decide) (by decide), far _ _ _ h2.b3 (by decide) (by decide), fun g' hg' => ?_, fun g' hg' => ?_⟩, HIB.out.2.1.trans hA.below⟩
          · rcases hg' with rfl | rfl | rfl | h | h
            · exact same _ _ _ h2.b1 (by decide) (by decide)
            · exact same _ _ _ h2.b2 (by decide) (by decide)
            · exact same _ _ _ h2.b3 (by decide) (by decide)
            · obtain ⟨cs, hc⟩ := h2.r1 _ h; exact same _ _ _ hc (by decide) (by decide)
            · obtain ⟨cs, hc⟩ := h2.r2 _ h; exact same _ _ _ hc (by decide) (by decide)
          · rw [HYES.out]
            have h3 := hA.own
            unfold OwnMk
            rw [List.length_append, List.flatMap_append, HN.out]
            simpa [eCM] using h3
          · obtain ⟨cs, hc⟩ := h2.r1 _ hg'; exact ⟨cs, far _ _ _ hc (by decide) (by decide)⟩
          · obtain ⟨cs, hc⟩ := h2.r2 _ hg'; exact ⟨cs, far _ _ _ hc (by decide) (by decide)⟩
  case done =>
    rintro D zs W hD hzs ⟨hI, hB⟩ hK
    have hz : zs = joinL ordS L1 L2 := hzs
    subst hz
    obtain ⟨o, b1, ho⟩ := hI.o
    rw [HAJ.out] at ho
    have m1 := b1.cell 0
    have f1 := b1.frozen 0
    simp at m1
    unfold OwnMk at ho
    obtain ⟨A3, c3, rfl, _, _, _⟩ := SlV_of_any ho
    have hD' : w.heap.size ≤ D := by have := HTE.out; omega
    have HC := Lib.hid (And.intro b1 (And.intro ho (And.intro hB hK))); clear b1 ho hB hK hzs hI
    obtain ⟨n, hn⟩ : ∃ n, ANS.length = n := ⟨_, rfl⟩
    rw [hn] at HC m1
    have HNN := Lib.hid hn
    try rw [hn]
    clear hn
    gi_wp2
    have hK2 : (W.setCell ⟨T, 0, none⟩ (.slice A3 n c3)).heap[D]? = some (Obj.deferred (some [])) := (KeepsOthers.setCell W ⟨T, 0, none⟩ (.slice A3 n c3)).same D _ HC.out.2.2.2 rfl
    have hR2 : Blk (W.setCell ⟨T, 0, none⟩ (.slice A3 n c3)) T 22 #[.slice A3 n c3] := HC.out.1.put 0 (.slice A3 n c3)
    have hO2 := HC.out.2.1.kept (grown_put (grown_refl W (some T)) 0 (.slice A3 n c3)) (.inr (own_ne_blk HC.out.2.1 HC.out.1 (by decide)))
    have hB2 := HC.out.2.2.1.setCell (p := ⟨T, 0, none⟩) (Nat.le_refl _) (.slice A3 n c3)
    have hw := fun r (e : some D = some r) => show ∃ o : Obj, (W.setCell ⟨T, 0, none⟩ (.slice A3 n c3)).heap[r]? = some o ∧ o.isCells = false from (by cases e; exact ⟨_, hK2, rfl⟩)
    refine ⟨by simp, .inl ⟨_, _, rfl, run_takeDeferred hK2, ?_⟩⟩
    refine ⟨_, res_cell_sl rfl _ _ T 22 (.slice A3 n c3) rfl (blk_ownF hR2 (grownBy_putObj' _ D (.deferred none)) hw) Tryz.underlying22, ⟨_, rfl, ?_, ?_⟩⟩
    · unfold OwnMk
      rw [HNN.out, ← HTE.out]
      exact own_ownF hO2 (grownBy_putObj' _ D (.deferred none)) hw
    · exact (hB2.mono (by have := HTE.out; omega)).trans (belowK_b (w := w) (Nat.le_refl _) _ D _ _ hD' hK2 rfl rfl)
  case stop =>
    rintro D c pre W hD hSp h
    exact h.elim
end Go.Proofs.YtnpehjgnplaabaaGreatDoor
/- region's base: what is known then. -/
set_option linter.unusedVariables false
set_option linter.unusedSimpArgs false
namespace Sw
open Go Go.Proofs.YtnpehjgnplaabaaGreatDoor
/-- what is held, path by path -/
def heldP (L : List MkE) (X Y : List NE) (p : ByteArray) : Option MkE := if (findM L p).isSome = true ∧ ¬ printN (getT X p) = printN (getT Y p) then some (p, (findM L p).getD ⟨0, 0, 0, 0, 0⟩) else none
theorem heldP_take (L : List MkE) (X Y : List NE) (ps : List ByteArray) (i : Nat) (h : i < ps.length) : (ps.take (i + 1)).filterMap (heldP L X Y) = (ps.take i).filterMap (heldP L X Y) ++ (heldP L X Y ps[i]).toList := by
  rw [List.take_succ_eq_append_getElem h, List.filterMap_append]
  cases hh : heldP L X Y ps[i] with
  | none => simp [hh]
  | some c => simp [hh]
end Sw
namespace Go.Proofs.YtnpehjgnplaabaaGreatDoor
open Go Go.RowKit
open Sw
set_option maxRecDepth 100000 in
set_option maxHeartbeats 16000000 in
theorem regBase_any (B0 : Nat) (w : World) (gs bt bt2 m0 m1 mc N : Nat) (policy : Int) (pv gv u1 u2 : Value) (l : List NP) (gr : List ByteArray) (l1 l2 : List MkE) (tb tm tb2 tm2 : Nat) (X Y : List NE)
    (h : RgAt B0 w gs bt bt2 m0 m1 mc N policy pv gv l gr) (hl : l.length ≤ 400) (hz : ∀ q ∈ l.map NP.path, q.size ≤ 90000) (h1 : SlV w 6 eCM u1 l1) (h2 : SlV w 6 eCM u2 l2) (hl1 : l1.length ≤ 1000) (hl2 : l2.length ≤ 1000)
    (hX : TreeAt w tb tm X) (hY : TreeAt w tb2 tm2 Y) (hxl : X.length ≤ 1000) (hyl : Y.length ≤ 1000) (hxd : ∀ e ∈ X, e.2.data.size ≤ maxLen) (hyd : ∀ e ∈ Y, e.2.data.size ≤ maxLen) :
    Calls Tryz.prog 30 #[.pointer (some ⟨gs, 0, none⟩), .agg #[u1, u2], .pointer (some ⟨tb, 0, none⟩), .pointer (some ⟨tb2, 0, none⟩)] w fun e w' => ∃ ua uh, e = .returned (.agg #[ua, uh]) ∧ OwnMk w' w.heap.size ua (agreeM (marksT X) (marksT Y)) ∧ OwnMk w' w.heap.size uh ((l.map NP.path).filterMap (heldP (l1 ++ l2) X Y)) ∧ Below w.heap.size w w' := by
  have hn : (l.map NP.path).length = l.length := List.length_map _
  obtain ⟨ps, hps⟩ : ∃ ps, l.map NP.path = ps := ⟨_, rfl⟩
  have hrp := (h : RgIn _ _ _ _ _ _ _ _ _ _ _ _ _ _ _ _ _).rp
  rw [← flat_sE] at hrp
  have hsv := SlV.of_own hrp sE_lenP (by decide)
  have hb := (h : RgIn _ _ _ _ _ _ _ _ _ _ _ _ _ _ _ _ _).box
  rw [hps] at hsv hz hn ⊢
  obtain ⟨W, hW⟩ : ∃ W, (w.alloc (.cells #[u1, u2] 24)).alloc (.cells #[.slice none 0 0, .slice none 0 0] 24) = W := ⟨_, rfl⟩
  have hbW : Below w.heap.size w W := by rw [← hW]; exact ((Below.refl _ w).alloc (Nat.le_refl _) _).alloc (by simp) _
  have hB5 : Blk W w.heap.size 24 #[u1, u2] := by rw [← hW]; exact blk_fst _ _ _ _
  have hB8 : Blk W (w.heap.size + 1) 24 #[.slice none 0 0, .slice none 0 0] := by rw [← hW]; exact blk_snd _ _ _ _
  have HOF := Lib.hid (archOf_any W tb tm tb2 tm2 X Y (hX.below hbW) (hY.below hbW) hxl hyl hxd hyd)
  have HFD := Lib.hid (fun V (hV : Below w.heap.size w V) p => findM_any V u1 u2 l1 l2 p (h1.below hV (Nat.le_refl _)) (h2.below hV (Nat.le_refl _)) (by omega) (by omega))
  have HG1 := Lib.hid (fun V (hV : Below w.heap.size w V) p (hp : p.size ≤ 90000) => treeGet_any V tb tm X p (hX.below hV) (by omega) hp)
  have HG2 := Lib.hid (fun V (hV : Below w.heap.size w V) p (hp : p.size ≤ 90000) => treeGet_any V tb2 tm2 Y p (hY.below hV) (by omega) hp)
  have hux := hX.map.up
  have huy := hY.map.up
  have HNS := Lib.hid (fun V p => nodeSame_any V (getT X p) (getT Y p) (getT_size hux hxd) (getT_size huy hyd))
  have z3 := (hb.below hbW hb.lt).cell 3
  simp only [List.getElem?_toArray, List.getElem?_cons_succ, List.getElem?_cons_zero] at z3
  have H0 := Lib.hid (And.intro hb (And.intro hsv (And.intro hbW (And.intro hB5 hB8))))
  have HZ := Lib.hid hz
  have HW := Lib.hid hW
  have hln : ps.length ≤ 400 := by omega
  obtain ⟨AX, hAX⟩ : ∃ a, agreeM (marksT X) (marksT Y) = a := ⟨_, rfl⟩
  rw [hAX] at HOF ⊢
  obtain ⟨A, c, rfl, hc1, hc2, -⟩ := hsv
  obtain ⟨A1, c1, rfl, -, -, -⟩ := h1
  obtain ⟨A2, c2, rfl, -, -, -⟩ := h2
  unfold maxLen at hc2
  obtain ⟨n, hnl⟩ : ∃ n, ps.length = n := ⟨_, rfl⟩
  have HN := Lib.hid hnl
  rw [hnl] at hc1 z3 H0 hln
  obtain ⟨k1, hk1⟩ : ∃ n, l1.length = n := ⟨_, rfl⟩
  obtain ⟨k2, hk2⟩ : ∃ n, l2.length = n := ⟨_, rfl⟩
  rw [hk1, hk2] at HFD HW H0
  rw [hk1, hk2]
  clear h hrp hb hn hnl hz hX hY hxd hyd hux huy hbW hB5 hB8 hW hAX hps hk1 hk2
  go_enter Tryz.func30, Tryz.ntmps30
  go_upto_region 1 with fail
  rw [HW.out]
  go_wp2_with fail
  refine HOF.out.mono ?_
  rintro e w2 ⟨ua, rfl, hoa, hb2⟩
  obtain ⟨V, hV⟩ : ∃ V, w2.alloc (.cells #[ua, .slice none 0 0] 24) = V := ⟨_, rfl⟩
  obtain ⟨g9, hg9⟩ : ∃ g, w2.heap.size = g := ⟨_, rfl⟩
  have hbV : Below w2.heap.size w2 V := by rw [← hV]; exact (Below.refl _ w2).alloc (Nat.le_refl _) _
  have hB9 : Blk V g9 24 #[ua, .slice none 0 0] := by rw [← hV, ← hg9]; exact Blk.new _ _ _
  have hWV : Below W.heap.size W V := hb2.trans (hbV.mono hb2.size)
  have hwV : Below w.heap.size w V := H0.out.2.2.1.trans (hWV.mono H0.out.2.2.1.size)
  have hWs : w.heap.size + 1 < W.heap.size := H0.out.2.2.2.2.lt
  have hg9s : w.heap.size + 1 < g9 := by rw [← hg9]; exact Nat.lt_of_lt_of_le hWs hb2.size
  have hoaV : V.ownsRow w.heap.size 63 6 ua AX.length (AX.flatMap eCM) := own_wide (own_kept hoa hbV) H0.out.2.2.1.size
  have hbxV := H0.out.1.below hwV H0.out.1.lt
  have y3 := hbxV.cell 3
  simp only [List.getElem?_toArray, List.getElem?_cons_succ, List.getElem?_cons_zero] at y3
  have H2 := Lib.hid (And.intro hwV (And.intro (H0.out.2.2.2.1.below hWV H0.out.2.2.2.1.lt) (And.intro (H0.out.2.2.2.2.below hWV H0.out.2.2.2.2.lt) (And.intro hB9 hoaV))))
  obtain ⟨Aa, ca, rfl, -, -, -⟩ := SlV_of_any hoa
  obtain ⟨na, hna⟩ : ∃ n, AX.length = n := ⟨_, rfl⟩
  have HNA := Lib.hid hna
  rw [hna] at hV H2 ⊢
  have HVV := Lib.hid (And.intro hV hg9)
  clear hoa hb2 hbV hB9 hWV hwV hoaV hbxV z3 HOF hna hV hg9
  go_upto_region 2 with fail
  rw [HVV.out.1]
  try rw [HVV.out.2]
  go_wp2_with fail
  go_loopw [23] (fun iv wr => ∃ (i : Nat) (uh : Value), i ≤ n ∧ iv = .int .i64 i ∧ Below w.heap.size w wr ∧ Blk wr w.heap.size 24 #[.slice A1 k1 c1, .slice A2 k2 c2] ∧ Blk wr (w.heap.size + 1) 24 #[.slice none 0 0, .slice none 0 0] ∧ Blk wr g9 24 #[.slice Aa na ca, uh] ∧ wr.ownsRow w.heap.size 63 6 (.slice Aa na ca) na (AX.flatMap eCM) ∧ wr.ownsRow w.heap.size 63 6 uh ((ps.take i).filterMap (heldP (l1 ++ l2) X Y)).length (((ps.take i).filterMap (heldP (l1 ++ l2) X Y)).flatMap eCM) ∧ (∀ g, (Value.slice Aa na ca).ownBlock = some g → uh.ownBlock = some g → False)) (fun iv _ => n - (intOf iv).toNat)
  case atStart => exact ⟨0, _, Nat.zero_le _, rfl, H2.out.1, H2.out.2.1, H2.out.2.2.1, H2.out.2.2.2.1, H2.out.2.2.2.2, World.ownsRow_nil _ _ _ _, fun g _ h => by simp [Value.ownBlock] at h⟩
  case round =>
    obtain ⟨i, uh, hi, rfl, hbr, b5, b8, b9, hoa, hoh, hap⟩ := hrel
    by_cases hlt : i < n
    · have hiP : i < ps.length := by have := HN.out; omega
      obtain ⟨A', c', hA, _, _, hso⟩ := H0.out.2.1.below hbr (Nat.le_refl _)
      rw [HN.out] at hA
      obtain ⟨rfl, rfl⟩ : A = A' ∧ c = c' := by injection hA with e1 e2 e3; exact ⟨e1, e3⟩
      clear hA
      obtain ⟨b, off, rfl, hbb, hcs⟩ := hso (by omega)
      have c0 := hcs i hiP 0 (by omega)
      simp only [sE, List.getElem?_cons_zero, Nat.add_zero, Nat.mul_one] at c0
      clear hcs hso
      have hi1 : (i : Int) < n := by omega
      have hst := heldP_take (l1 ++ l2) X Y ps i hiP
      have hqz := HZ.out _ (List.getElem_mem hiP)
      obtain ⟨q, hq⟩ : ∃ q, ps[i] = q := ⟨_, rfl⟩
      simp only [hq] at c0 hst hqz
      clear hq
      have hhd : heldP (l1 ++ l2) X Y q = if (findM (l1 ++ l2) q).isSome = true ∧ ¬ printN (getT X q) = printN (getT Y q) then some (q, (findM (l1 ++ l2) q).getD ⟨0, 0, 0, 0, 0⟩) else none := rfl
      rw [hhd] at hst
      have hF := HFD.out wr hbr q
      have hS := fun V => HNS.out V q
      have hL := fun V hV => HG1.out V hV q hqz
      have hR := fun V hV => HG2.out V hV q hqz
      obtain ⟨K, hK⟩ : ∃ K, (ps.take i).filterMap (heldP (l1 ++ l2) X Y) = K := ⟨_, rfl⟩
      rw [hK] at hst hoh
      obtain ⟨S, hS2⟩ : ∃ S, decide (printN (getT X q) = printN (getT Y q)) = S := ⟨_, rfl⟩
      simp only [hS2] at hS
      generalize (findM (l1 ++ l2) q).getD ⟨0, 0, 0, 0, 0⟩ = pr at *
      generalize (findM (l1 ++ l2) q).isSome = had at *
      obtain ⟨nx, hnx⟩ : ∃ n, getT X q = n := ⟨_, rfl⟩
      obtain ⟨ny, hny⟩ : ∃ n, getT Y q = n := ⟨_, rfl⟩
      rw [hnx, hny] at hst hS2
      simp only [hnx, hny] at hS hL hR
      clear hnx hny hhd
      obtain ⟨xa, xb, xc, xd⟩ := nx
      obtain ⟨ya, yb, yc, yd⟩ := ny
      obtain ⟨fa, fb, fc, fd, fs⟩ := pr
      simp only [Nd.c] at hS hL hR
      simp only [Pr.c] at hF
      obtain ⟨kk, hkk⟩ : ∃ k, K.length = k := ⟨_, rfl⟩
      rw [hkk] at hoh
      have hkl : kk ≤ 400 := by rw [← hkk, ← hK]; exact Nat.le_trans (List.length_filterMap_le _ _) (by rw [List.length_take]; omega)
      obtain ⟨Ah, ch, rfl, -, -, -⟩ := SlV_of_any hoh
      have x0 := b5.cell 0
      have x1 := b5.cell 1
      simp only [List.getElem?_toArray, List.getElem?_cons_succ, List.getElem?_cons_zero] at x0 x1
      have HH := Lib.hid (And.intro hbr (And.intro b5 (And.intro b8 (And.intro b9 (And.intro hoa (And.intro hoh hap))))))
      have HF := Lib.hid hF
      have HS := Lib.hid hS
      have HL := Lib.hid hL
      have HR := Lib.hid hR
      have HST := Lib.hid (And.intro hst (And.intro hS2 hkk))
      clear hbr b5 b8 b9 hoa hoh hap hF hS hL hR hst hS2 hK hkk hqz
      go_wp2_with fail
      refine HF.out.mono ?_
      rintro e w3 ⟨rfl, hb3⟩
      obtain ⟨V, hV⟩ : ∃ V, w3.alloc (.cells #[.int .i64 fa, .int .i64 fb, .int .u32 fc, .int .i64 fd, .int .u32 fs] 61) = V := ⟨_, rfl⟩
      obtain ⟨gp, hgp⟩ : ∃ g, w3.heap.size = g := ⟨_, rfl⟩
      have hbV : Below w3.heap.size w3 V := by rw [← hV]; exact (Below.refl _ w3).alloc (Nat.le_refl _) _
      have hBp : Blk V gp 61 #[.int .i64 fa, .int .i64 fb, .int .u32 fc, .int .i64 fd, .int .u32 fs] := by rw [← hV, ← hgp]; exact Blk.new _ _ _
      have hrV : Below wr.heap.size wr V := hb3.trans (hbV.mono hb3.size)
      have H3 := Lib.hid (And.intro hrV hBp)
      clear hb3 hbV hrV hBp x0 x1 HF c0
      have hskip : ∀ V' : World, Below wr.heap.size wr V' → (if had = true ∧ ¬ printN (⟨xa, xb, xc, xd⟩ : Nd) = printN ⟨ya, yb, yc, yd⟩ then some (q, (⟨fa, fb, fc, fd, fs⟩ : Pr)) else none) = none → ∃ (i' : Nat) (uh' : Value), i' ≤ n ∧ Value.int .i64 ((i : Int) + 1) = .int .i64 i' ∧ Below w.heap.size w V' ∧ Blk V' w.heap.size 24 #[.slice A1 k1 c1, .slice A2 k2 c2] ∧ Blk V' (w.heap.size + 1) 24 #[.slice none 0 0, .slice none 0 0] ∧ Blk V' g9 24 #[.slice Aa na ca, uh'] ∧ V'.ownsRow w.heap.size 63 6 (.slice Aa na ca) na (AX.flatMap eCM) ∧ V'.ownsRow w.heap.size 63 6 uh' ((ps.take i').filterMap (heldP (l1 ++ l2) X Y)).length (((ps.take i').filterMap (heldP (l1 ++ l2) X Y)).flatMap eCM) ∧ (∀ g, (Value.slice Aa na ca).ownBlock = some g → uh'.ownBlock = some g → False) := fun V' hV' hnone => by
        have e := HST.out.1
        rw [hnone] at e
        refine ⟨i + 1, _, by omega, by go_num, HH.out.1.trans (hV'.mono HH.out.1.size), HH.out.2.1.below hV' HH.out.2.1.lt, HH.out.2.2.1.below hV' HH.out.2.2.1.lt, HH.out.2.2.2.1.below hV' HH.out.2.2.2.1.lt, own_kept HH.out.2.2.2.2.1 hV', ?_, HH.out.2.2.2.2.2.2⟩
        rw [e]
        simp only [Option.toList, List.append_nil, HST.out.2.2]
        exact own_kept HH.out.2.2.2.2.2.1 hV'
      have HSK := Lib.hid hskip
      clear hskip
      cases had with
      | false =>
        go_wp2_with fail
        clear hV hgp
        go_roundw
        case rel => exact HSK.out V H3.out.1 (by simp)
        case measure => simp [intOf]; omega
      | true =>
        go_wp2_with fail
        clear hV hgp
        refine (HL.out V (HH.out.1.trans (H3.out.1.mono HH.out.1.size))).mono ?_
        rintro e w4 ⟨rfl, hb4⟩
        have H4 := Lib.hid (H3.out.1.trans (hb4.mono H3.out.1.size))
        have hBp4 := H3.out.2.below hb4 H3.out.2.lt
        clear hb4 HL
        go_wp2_with fail
        refine (HR.out w4 (HH.out.1.trans (H4.out.mono HH.out.1.size))).mono ?_
        rintro e w5 ⟨rfl, hb5⟩
        have H5 := Lib.hid (And.intro (H4.out.trans (hb5.mono H4.out.size)) (hBp4.below hb5 hBp4.lt))
        clear hb5 HR hBp4
        go_wp2_with fail
        refine (HS.out w5).mono ?_
        rintro e w6 ⟨rfl, hb6⟩
        have hB6 := H5.out.2.below hb6 H5.out.2.lt
        have h56 := H5.out.1.trans (hb6.mono H5.out.1.size)
        have H6 := Lib.hid h56
        have p0 := hB6.cell 0
        have p1 := hB6.cell 1
        have p2 := hB6.cell 2
        have p3 := hB6.cell 3
        have p4 := hB6.cell 4
        simp only [List.getElem?_toArray, List.getElem?_cons_succ, List.getElem?_cons_zero] at p0 p1 p2 p3 p4
        clear hb6 HS hB6
        cases S with
        | true =>
          go_wp2_with fail
          go_roundw
          case rel => exact HSK.out w6 H6.out (by rw [if_neg (fun h => h.2 (of_decide_eq_true HST.out.2.1))])
          case measure => simp [intOf]; omega
        | false =>
          have hb9 := HH.out.2.2.2.1.below h56 HH.out.2.2.2.1.lt
          have y1 := hb9.cell 1
          simp only [List.getElem?_toArray, List.getElem?_cons_succ, List.getElem?_cons_zero] at y1
          have HY := Lib.hid (show (ps.take (i + 1)).filterMap (heldP (l1 ++ l2) X Y) = K ++ [(q, (⟨fa, fb, fc, fd, fs⟩ : Pr))] by
            rw [HST.out.1, if_pos ⟨by first | rfl | trivial, of_decide_eq_false HST.out.2.1⟩]; rfl)
          have H9 := Lib.hid (And.intro hb9 (And.intro (own_kept HH.out.2.2.2.2.1 h56) (And.intro (own_kept HH.out.2.2.2.2.2.1 h56) (And.intro (HH.out.2.1.below h56 HH.out.2.1.lt) (And.intro (HH.out.2.2.1.below h56 HH.out.2.2.1.lt) (HH.out.1.trans (h56.mono HH.out.1.size)))))))
          clear h56 hb9
          go_wp2_with (at_builtin; go_loud (refine wpList_app rfl _ _ 22 rfl w.heap.size 63 (.agg #[.string ⟨#[]⟩, .int .i64 0, .int .i64 0, .int .u32 0, .int .i64 0, .int .u32 0]) 6 56 Tryz.underlying22 infoMk rfl (by decide) _ kk (K.flatMap eCM) rfl (own_kept H9.out.2.2.1 ((Below.refl _ _).alloc (Nat.le_refl _) _)) w6.heap.size 1 #[.string q, .int .i64 fa, .int .i64 fb, .int .u32 fc, .int .i64 fd, .int .u32 fs] 63 rfl (Blk.new w6 _ _) rfl (by simp [Value.oneCell']) (by omega) (by decide) (Nat.le_trans H9.out.2.2.2.2.2.size (by simp)) _ rfl ?_; intro g cap w7 ho7 hg7 hat7 hlt7; have hnb : ∀ g' cs, Blk w6 g' 24 cs → Blk w7 g' 24 cs := (fun g' cs hB => (hB.alloc _).grown hg7 (fun e => by obtain ⟨cur, hc⟩ := own_blkB H9.out.2.2.1 e.symm; exact Blk.other hc hB (by decide) rfl)); have HNB := Lib.hid hnb; have HO7 := Lib.hid (And.intro ho7 (And.intro hg7 hat7)); have hb7 := hnb _ _ H9.out.1; have c7 := hb7.cell 1; have f7 := hb7.frozen 1; simp only [List.getElem?_toArray, List.getElem?_cons_succ, List.getElem?_cons_zero] at c7; clear hnb hb7 ho7 hg7 hat7 y1 p0 p1 p2 p3 p4))
          go_roundw
          case rel =>
            have hal : Below w6.heap.size w6 (w6.alloc (.cells #[.string q, .int .i64 fa, .int .i64 fb, .int .u32 fc, .int .i64 fd, .int .u32 fs] 63)) := (Below.refl _ _).alloc (Nat.le_refl _) _
            have hne9 : g ≠ g9 := by
              rcases HO7.out.2.2 with e | e
              · obtain ⟨cur, hc⟩ := own_blkB H9.out.2.2.1 e
                exact fun e2 => Blk.other hc H9.out.1 (by decide) (by rw [e2])
              · have := H9.out.1.lt; have := hal.size; omega
            have hbw7 : Below w.heap.size w w7 := (H9.out.2.2.2.2.2.trans (hal.mono H9.out.2.2.2.2.2.size)).grown HO7.out.2.1 (Nat.le_trans H9.out.2.2.2.2.2.size hal.size) (fun k hk => (H9.out.2.2.1.lt k hk).1)
            have hs7 : ∀ (v : Value) (xs : List Value) (m : Nat), w7.ownsRow w.heap.size 63 6 v m xs → (w7.setCell ⟨g9, 1, none⟩ (.slice (some ⟨g, 0, none⟩) (kk + 1) cap)).ownsRow w.heap.size 63 6 v m xs := fun v xs m ho => own_sameB ho (fun g' hg' => Below.heap_setCell w7 ⟨g9, 1, none⟩ _ g' (fun e => by
              obtain ⟨cur, hc⟩ := own_blkB ho hg'
              exact Blk.other hc (HNB.out _ _ H9.out.1) (by decide) (by rw [e])))
            have hoa7 : w7.ownsRow w.heap.size 63 6 (.slice Aa na ca) na (AX.flatMap eCM) := own_sameB H9.out.2.1 (fun g' hg' => (HO7.out.2.1.block g' (Nat.lt_of_lt_of_le (H9.out.2.1.lt g' hg').2 hal.size) (fun e => HH.out.2.2.2.2.2.2 g' hg' e.symm)).trans (hal.block g' (H9.out.2.1.lt g' hg').2))
            have g9ne : ∀ g' cs, g' ≠ g9 → Blk w7 g' 24 cs → Blk (w7.setCell ⟨g9, 1, none⟩ (.slice (some ⟨g, 0, none⟩) (kk + 1) cap)) g' 24 cs := fun g' cs hne hB => by
              have := Below.heap_setCell w7 ⟨g9, 1, none⟩ (.slice (some ⟨g, 0, none⟩) (kk + 1) cap) g' hne
              unfold Blk at hB ⊢
              rw [this, hB]
            refine ⟨i + 1, .slice (some ⟨g, 0, none⟩) (kk + 1) cap, by omega, by go_num, hbw7.setCell (p := ⟨g9, 1, none⟩) (by show w.heap.size ≤ g9; omega) _, g9ne _ _ (by omega) (HNB.out _ _ H9.out.2.2.2.1), g9ne _ _ (by omega) (HNB.out _ _ H9.out.2.2.2.2.1), ?_, hs7 _ _ _ hoa7, ?_, fun g' h1 h2 => ?_⟩
            · have := (HNB.out _ _ H9.out.1).put 1 (.slice (some ⟨g, 0, none⟩) (kk + 1) cap)
              simpa using this
            · rw [HY.out, List.length_append, List.length_singleton, HST.out.2.2, List.flatMap_append]
              exact hs7 _ _ _ HO7.out.1
            · have e : g' = g := by simpa [Value.ownBlock] using h2.symm
              subst e
              rcases HO7.out.2.2 with e | e
              · exact HH.out.2.2.2.2.2.2 _ h1 e
              · have h3 := (H9.out.2.1.lt _ h1).2; have := hal.size; omega
          case measure => simp [intOf]; omega
    · obtain rfl : i = n := by omega
      rw [List.take_of_length_le (by have := HN.out; omega)] at hoh
      obtain ⟨K, hK⟩ : ∃ K, ps.filterMap (heldP (l1 ++ l2) X Y) = K := ⟨_, rfl⟩
      rw [hK] at hoh
      obtain ⟨kk, hkk⟩ : ∃ k, K.length = k := ⟨_, rfl⟩
      rw [hkk] at hoh
      obtain ⟨Ah, ch, rfl, -, -, -⟩ := SlV_of_any hoh
      have x0 := b9.cell 0
      have x1 := b9.cell 1
      have y0 := b8.cell 0
      have y1 := b8.cell 1
      have f0 := b8.frozen 0
      have f1 := b8.frozen 1
      simp only [List.getElem?_toArray, List.getElem?_cons_succ, List.getElem?_cons_zero] at x0 x1 y0 y1
      have HE := Lib.hid (And.intro hbr (And.intro b8 (And.intro hoa (And.intro hoh (And.intro hK hkk)))))
      clear hbr b5 b8 b9 hoa hoh hap hK hkk
      go_wp2_with fail
      have hset : ∀ (v : Value) (xs : List Value) (m : Nat), wr.ownsRow w.heap.size 63 6 v m xs → ((wr.setCell ⟨w.heap.size + 1, 0, none⟩ (.slice Aa na ca)).setCell ⟨w.heap.size + 1, 1, none⟩ (.slice Ah kk ch)).ownsRow w.heap.size 63 6 v m xs := fun v xs m ho => own_sameB ho (fun g' hg' => by
        have hne : g' ≠ w.heap.size + 1 := fun e => by
          obtain ⟨cur, hc⟩ := own_blkB ho hg'
          exact Blk.other hc HE.out.2.1 (by decide) (by rw [e])
        exact (Below.heap_setCell _ ⟨w.heap.size + 1, 1, none⟩ _ g' hne).trans (Below.heap_setCell _ ⟨w.heap.size + 1, 0, none⟩ _ g' hne))
      refine bodyPost_ret (v := .agg #[.slice Aa na ca, .slice Ah kk ch]) (results_cell_row rfl _ _ (w.heap.size + 1) 24 #[.slice Aa na ca, .slice Ah kk ch] (0, 0) _ rfl ((HE.out.2.1.put 0 (.slice Aa na ca)).put 1 (.slice Ah kk ch)) Tryz.underlying24 rfl (by kernel_rfl)) rfl ⟨_, _, rfl, ?_, ?_, ?_⟩
      · unfold OwnMk; rw [HNA.out]; exact hset _ _ _ HE.out.2.2.1
      · unfold OwnMk; rw [HE.out.2.2.2.2.1, HE.out.2.2.2.2.2]; exact hset _ _ _ HE.out.2.2.2.1
      · exact (HE.out.1.setCell (p := ⟨w.heap.size + 1, 0, none⟩) (Nat.le_succ _) _).setCell (p := ⟨w.heap.size + 1, 1, none⟩) (Nat.le_succ _) _
end Go.Proofs.YtnpehjgnplaabaaGreatDoor
