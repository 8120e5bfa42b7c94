/- Several texts, joined for the limit of sixty files; each one opens with its own comment. -/
import Derived.Test.YtihiakkeloejlaaGreatDoorJoin30
import Derived.Test.YtihiakkeloejlaaGreatDoorJoin31
import Derived.Test.YtihiakkeloejlaaGreatDoorJoin5
import Derived.Test.YtihiakkeloejlaaGreatDoorJoin6
import Derived.Test.YtihiakkeloejlaaGreatDoorJoin4
import Derived.Test.YtihiakkeloejlaaGreatDoorJoin15
import Derived.Test.YtihiakkeloejlaaGreatDoorJoin19
/- diff.Of: how two trees differ, and what moved. -/
set_option linter.unusedVariables false
set_option linter.unusedSimpArgs false
namespace Go.Proofs.YtihiakkeloejlaaGreatDoor
open Go Go.RowKit Go.Shelf
open Sw
attribute [local go_sem] Oper.semAt_some
theorem mvP_len (f g : ByteArray → Pr) : ∀ us G, (mvP f g us G).length ≤ us.length
  | [], _ => by simp [mvP]
  | a :: us, G => by
    unfold mvP
    split
    · have := mvP_len f g us (G.eraseP fun r => decide (g r = f a)); simp; omega
    · have := mvP_len f g us G; simp; omega
theorem movesP_len (xs ys : List NE) : (mvO (movesP xs ys)).length ≤ xs.length + ys.length := by
  unfold mvO movesP cameP
  rw [List.length_map]
  refine Nat.le_trans (mvP_len _ _ _ _) ?_
  rw [List.length_map]
  exact Nat.le_trans (List.length_filter_le _ _) (each_len xs ys)
/-- what the region of a move reads -/
def C7 (g2 mvb gm : Nat) (o mv : Value) (cur : Array Value) (W : World) : Prop :=
  Blk W g2 32 #[o] ∧ Blk W mvb 32 #[mv] ∧ Blk W gm 40 cur
set_option maxRecDepth 100000 in
set_option maxHeartbeats 8000000 in
theorem diffOf_any (w : World) (bt bm bt2 bm2 : Nat) (xs ys : List NE) (hT : TreeAt w bt bm xs) (hT2 : TreeAt w bt2 bm2 ys) (hxi : TI xs) (hyi : TI ys) (hxl : xs.length ≤ 1000) (hyl : ys.length ≤ 1000)
    (hxt : ∀ e ∈ xs, 0 ≤ e.2.time ∧ e.2.time < 4294967296) (hyt : ∀ e ∈ ys, 0 ≤ e.2.time ∧ e.2.time < 4294967296) (hxd : ∀ e ∈ xs, e.2.data.size ≤ maxLen) (hyd : ∀ e ∈ ys, e.2.data.size ≤ maxLen) :
    Calls Tryz.prog 10 #[.pointer (some ⟨bt, 0, none⟩), .pointer (some ⟨bt2, 0, none⟩)] w fun e w' => ∃ u, e = .returned u ∧ OwnC w' w.heap.size u (ofPD xs ys) ∧ Below w.heap.size w w' := by
  obtain ⟨W0, hW0⟩ : ∃ W0, w.alloc (.cells #[.slice none 0 0] 32) = W0 := ⟨_, rfl⟩
  have hb1 : Below w.heap.size w W0 := by rw [← hW0]; exact (Below.refl _ w).alloc (Nat.le_refl _) _
  have e2 : Blk W0 w.heap.size 32 #[.slice none 0 0] := by rw [← hW0]; exact Blk.new _ _ _
  have hs0 : W0.heap.size = w.heap.size + 1 := by rw [← hW0]; simp
  have HM := Lib.hid (moves_any W0 bt bm bt2 bm2 xs ys (hT.below hb1) (hT2.below hb1) hxi hyi hxl hyl hxt hyt hxd hyd)
  obtain ⟨g2, hg2⟩ : ∃ g, w.heap.size = g := ⟨_, rfl⟩
  rw [hg2] at e2 hs0
  have HX := Lib.hid (And.intro hxi (And.intro hyi (And.intro hxl (And.intro hyl (And.intro hxt (And.intro hyt (And.intro hxd hyd)))))))
  have H0 := Lib.hid (And.intro hb1 (And.intro e2 (And.intro hs0 (And.intro (hT.below hb1) (hT2.below hb1)))))
  clear hT hT2 hb1 e2 hs0 hxi hyi hxl hyl hxt hyt hxd hyd
  refine callsIn_wide.1 (?_ : CallsIn Fence.wide 20 _ _ _ _ _)
  refine callsIn_of_wp_marks Tryz.func10 rfl trivial ?_ rfl
  simp only [Tryz.ntmps10, List.size_toArray, List.length_cons, List.length_nil, Nat.reduceAdd, Nat.reduceSub, Array.replicate_succ, Array.replicate_zero, List.push_toArray, List.append_toArray, List.nil_append, List.cons_append]
  rw [hg2]
  have HG := Lib.hid hg2
  gi_wp2
  refine ⟨trivial, (callsIn_wide.2 HM.out).mono ?_⟩
  rintro e w1 ⟨u, rfl, hou, hb1⟩
  clear hW0
  have hul : ∀ k, u.ownBlock = some k → g2 < k ∧ k < w1.heap.size := fun k hk => by
    have := World.ownsRow.lt hou k hk
    have h3 := H0.out.2.2.1
    omega
  have hLm : Lies w1 40 3 eCC u (mvO (movesP xs ys)) := Lies.of_own hou eCC_len (by decide)
  have HML := Lib.hid (movesP_len xs ys)
  obtain ⟨M, hM⟩ : ∃ M, movesP xs ys = M := ⟨_, rfl⟩
  have hPD : ofPD xs ys = (eachP xs ys).filterMap (ofE M) := by rw [← hM]; rfl
  rw [hM] at hLm HML
  have HPD := Lib.hid hPD
  obtain ⟨Am, cm, rfl, hcm, hcm2, hL0⟩ := hLm
  obtain ⟨nm, hnm⟩ : ∃ n, (mvO M).length = n := ⟨_, rfl⟩
  have HNM := Lib.hid hnm
  have hLm : Lies w1 40 3 eCC (.slice Am nm cm) (mvO M) := by rw [← hnm]; exact ⟨Am, cm, rfl, hcm, hcm2, hL0⟩
  simp only [hnm] at hul HML hM ⊢
  clear hou hcm hcm2 hL0 hPD hnm hM
  obtain ⟨W1, hW1⟩ : ∃ W1, w1.alloc (.cells #[.slice Am nm cm] 32) = W1 := ⟨_, rfl⟩
  obtain ⟨mvb, hmvb⟩ : ∃ n, w1.heap.size = n := ⟨_, rfl⟩
  have hb01 : Below W0.heap.size W0 W1 := hb1.trans (by rw [← hW1]; exact (Below.refl _ w1).alloc hb1.size _)
  have hmB : Blk W1 mvb 32 #[.slice Am nm cm] := by rw [← hW1, ← hmvb]; exact Blk.new _ _ _
  have hs1 : W1.heap.size = mvb + 1 := by rw [← hW1, ← hmvb]; simp
  have hgm : g2 < mvb := by have := H0.out.2.2.1; have := hb1.size; omega
  have hLm1 : Lies W1 40 3 eCC (.slice Am nm cm) (mvO M) := hLm.below (by rw [← hW1]; exact (Below.refl _ w1).alloc (Nat.le_refl _) _)
  rw [hmvb] at hul
  obtain ⟨W2, hW2⟩ : ∃ W2, (W1.alloc (.cells #[.pointer (some ⟨bt, 0, none⟩)] 26)).alloc (.cells #[.pointer (some ⟨bt2, 0, none⟩)] 26) = W2 := ⟨_, rfl⟩
  have hb12 : Below W1.heap.size W1 W2 := by rw [← hW2]; exact ((Below.refl _ W1).alloc (Nat.le_refl _) _).alloc (by simp) _
  have hO1 : O1 M g2 g2 mvb (.slice Am nm cm) w [] W1 := ⟨⟨_, H0.out.2.1.below hb01 H0.out.2.1.lt, World.ownsRow_nil _ _ _ _, fun k _ h => by cases h⟩, hmB, hLm1, hul, by
    have h1 := H0.out.1.trans (hb01.mono H0.out.1.size)
    rw [HG.out] at h1
    exact h1⟩
  have hO2 := hO1.below (by omega) hb12
  have hb02 := hb01.trans (hb12.mono hb01.size)
  have l1 : Blk W2 W1.heap.size 26 #[.pointer (some ⟨bt, 0, none⟩)] := by rw [← hW2]; exact blk_fst _ _ _ _
  have l2 : Blk W2 (W1.heap.size + 1) 26 #[.pointer (some ⟨bt2, 0, none⟩)] := by rw [← hW2]; exact blk_snd _ _ _ _
  have hB2 : g2 ≤ W2.heap.size := by have := hb12.size; omega
  have HT1 := Lib.hid (diffEach_tells 19 (by omega) tsG keepOkG g2 W2 hB2 W1.heap.size (W1.heap.size + 1) bt bm bt2 bm2 xs ys l1 l2 (H0.out.2.2.2.1.below hb02) (H0.out.2.2.2.2.below hb02) HX.out.1 HX.out.2.1 HX.out.2.2.1 HX.out.2.2.2.1 HX.out.2.2.2.2.2.2.1 HX.out.2.2.2.2.2.2.2)
  have HEc := Lib.hid (diffEach_any W1 bt bt2)
  have hr2 : g2 < W2.heap.size := by have := hb12.size; omega
  have H1 := Lib.hid (And.intro hO2 (And.intro hB2 (And.intro hgm hr2)))
  rw [hW2] at HEc
  clear hb1 hul hLm hb01 hmB hgm hLm1 hb12 hO1 hO2 hb02 l1 l2 hB2 hr2 HM
  gi_wp2
  try rw [hmvb]
  refine ⟨trivial, (callsIn_wide.2 HEc.out).mono ?_⟩
  rintro e V9 ⟨rfl, rfl⟩
  obtain ⟨S0, hS0⟩ : ∃ n, W1.heap.size = n := ⟨_, rfl⟩
  rw [hS0] at HT1 ⊢
  clear hs1 HEc hW1 hW2 hmvb hS0
  gi_wp2
  refine wpIn_rangeFunc_in (Mine := fun _ => False) (fun _ h => h.elim) rfl (by omega) (gf := 30) (lb := #[.pointer (some ⟨S0, 0, none⟩), .pointer (some ⟨S0 + 1, 0, none⟩)]) rfl trivial (enters_of Tryz.func30 (by kernel_rfl) rfl)
    HT1.out KeepR.trans (fun W l o o' hl h => keepR_b _ (by have := H1.out.2.1; omega) h rfl) (Below.refl _ _) (fun _ => rfl)
    (O1 M g2 g2 mvb (.slice Am nm cm) w)
    (fun c pre V => False)
    (O1.own (Nat.le_refl _) H1.out.2.2.2) (fun c s A C row h hg hr => h.elim)
    H1.out.1
    ?a1 (fun x V => V.alloc (.cells #[.int .i64 x.1, .string x.2, .string ⟨#[]⟩] 40))
    (fun x n0 pre V => O1 M g2 g2 mvb (.slice Am nm cm) w pre V ∧ Blk V n0 40 #[.int .i64 x.1, .string x.2, .string ⟨#[]⟩])
    (fun x n0 s A C row h hg hr => ⟨O1.own (Nat.le_refl _) H1.out.2.2.2 s A C row h.1 hg hr, blk_ownF h.2 hg (fun r e => ((hr r e).resolve_left id).2)⟩)
    ?made ?assign ?body ?done ?stop
  case assign =>
    intro l2 x n0 V hn0 K hK
    gi_wp2
    exact hK
  case made =>
    intro pre x V hI hTl
    have hba := (Below.refl V.heap.size V).alloc (Nat.le_refl _) (.cells #[.int .i64 x.1, .string x.2, .string ⟨#[]⟩] 40)
    have hBV : g2 ≤ V.heap.size := by have := hI.mb.lt; have := H1.out.2.2.1; omega
    exact ⟨⟨hI.below hBV hba, Blk.new _ _ _⟩, keeps_belowF hba, KeepR.below hba hBV⟩
  case body =>
    rintro l pre ⟨kk, p⟩ n0 V ⟨hI, hX⟩ hTl hsV
    have hBV : g2 ≤ V.heap.size := by have := hI.mb.lt; have := H1.out.2.2.1; omega
    have hpl : (pre.filterMap (ofE M)).length ≤ 2000 := by
      obtain ⟨r, hr⟩ := hTl
      have h1 := congrArg List.length hr
      have h2 := each_len xs ys
      have h3 := HX.out.2.2.1
      have h4 := HX.out.2.2.2.1
      have h5 := List.length_filterMap_le (ofE M) pre
      simp only [List.length_append, List.length_cons, List.length_nil] at h1
      omega
    have hml : (mvO M).length ≤ 100000 := by
      have h3 := HX.out.2.2.1
      have h4 := HX.out.2.2.2.1
      have := HML.out
      rw [HNM.out]
      omega
    have hsv : SlV V 3 eCC (.slice Am nm cm) (mvO M) := hI.lies.slv eCC_len
    have HIX := Lib.hid (index41_any V (.slice Am nm cm) n0 (mvO M) hsv hml kk p ⟨#[]⟩ hX)
    have HCN := Lib.hid (fun V' (hb : Below V.heap.size V V') => contains41_any V' (.slice Am nm cm) n0 (mvO M) ((hI.below hBV hb).lies.slv eCC_len) hml kk p ⟨#[]⟩ (hX.below hb hX.lt))
    have x0 := hI.mb.cell 0
    simp only [List.getElem?_toArray, List.getElem?_cons_zero] at x0
    have HI := Lib.hid (And.intro hI (And.intro hX (And.intro hBV hpl)))
    clear hI hX hTl hBV hpl hml hsv
    gi_wp2
    refine ((callsIn_wide.2 HIX.out).inRound l).mono ?_
    rintro e V1 ⟨hpost, hb1⟩
    have y0 := (HI.out.1.below HI.out.2.2.1 hb1).mb.cell 0
    simp only [List.getElem?_toArray, List.getElem?_cons_zero] at y0
    have HB1 := Lib.hid hb1
    clear hb1 x0 HIX
    rcases hpost with ⟨i, hi, hbef, hat, rfl⟩ | ⟨hno, rfl⟩
    · have hc : ofE M (kk, p) = some (mvO M)[i] := ofE_came hi hbef hat
      have hin : i < nm := by rw [← HNM.out]; exact hi
      obtain ⟨⟨xk, x1, x2⟩, hx⟩ : ∃ x, (mvO M)[i] = x := ⟨_, rfl⟩
      rw [hx] at hc
      have HC := Lib.hid hc
      have h1 := HI.out.1.below HI.out.2.2.1 HB1.out
      clear hbef hat hc
      gi_wp2
      refine ((callsIn_wide.2 (HCN.out V1 HB1.out)).inRound l).mono ?_
      rintro e V2 ⟨rfl, hb2⟩
      have hb02 := HB1.out.trans (hb2.mono HB1.out.size)
      have HB2 := Lib.hid hb02
      have h2 := HI.out.1.below HI.out.2.2.1 hb02
      clear hb2 hb02 y0 HCN h1
      generalize ((mvO M).any fun m => decide (kk = 2 ∧ m.2.2 = p)) = q at *
      gi_wp2
      obtain ⟨o, hrc, ho, hn⟩ := h2.out
      obtain ⟨no, hno⟩ : ∃ n, (pre.filterMap (ofE M)).length = n := ⟨_, rfl⟩
      have hno2 : no ≤ 2000 := by rw [← hno]; exact HI.out.2.2.2
      have ho' := ho
      unfold OwnC at ho'
      rw [hno] at ho'
      obtain ⟨Ao, co, rfl, _, _, _⟩ := SlV_of_any ho'
      obtain ⟨Am', cm', hAm, -, -, hL⟩ := h2.lies
      rw [HNM.out] at hAm
      obtain ⟨rfl, rfl⟩ : Am = Am' ∧ cm = cm' := by injection hAm with e1 e2 e3; exact ⟨e1, e3⟩
      obtain ⟨gm, om, cur, rfl, hgB, hgx⟩ := hL (by omega)
      have hgl : gm ≠ g2 := by
        have := (h2.ml gm rfl).1
        omega
      have hcur : ∀ j (hj : j < 3), cur[om + i * 3 + j]? = (eCC (xk, x1, x2))[j]? := fun j hj => by
        have e1 := flat_get eCC_len (mvO M) i hi j hj
        rw [← hgx, List.getElem?_take, if_pos (by have := HNM.out; omega), List.getElem?_drop, Array.getElem?_toList, ← Nat.add_assoc, hx] at e1
        exact e1
      have u0 := hcur 0 (by omega)
      have u1 := hcur 1 (by omega)
      have u2 := hcur 2 (by omega)
      simp only [eCC, List.getElem?_cons_succ, List.getElem?_cons_zero, Nat.add_zero] at u0 u1 u2
      have hne : (Value.slice Ao no co).ownBlock ≠ some gm := hn gm rfl
      have hC7 : C7 g2 mvb gm (.slice Ao no co) (.slice (some ⟨gm, om, none⟩) nm cm) cur V2.drew := ⟨hrc.drew, h2.mb.drew, hgB.drew⟩
      have q0 : ∀ m : Held (C7 g2 mvb gm (.slice Ao no co) (.slice (some ⟨gm, om, none⟩) nm cm) cur), (HeldW m).cell? ⟨g2, 0, none⟩ = some (.slice Ao no co) := fun m => by have := (HeldW_spec m).1.cell 0; simpa using this
      have q1 : ∀ m : Held (C7 g2 mvb gm (.slice Ao no co) (.slice (some ⟨gm, om, none⟩) nm cm) cur), (HeldW m).cell? ⟨mvb, 0, none⟩ = some (.slice (some ⟨gm, om, none⟩) nm cm) := fun m => by have := (HeldW_spec m).2.1.cell 0; simpa using this
      have q2 : ∀ m : Held (C7 g2 mvb gm (.slice Ao no co) (.slice (some ⟨gm, om, none⟩) nm cm) cur), (HeldW m).cell? ⟨gm, om + i * 3, none⟩ = some (.int .i64 xk) := fun m => by have := (HeldW_spec m).2.2.cell (om + i * 3); rw [u0] at this; exact this
      have q3 : ∀ m : Held (C7 g2 mvb gm (.slice Ao no co) (.slice (some ⟨gm, om, none⟩) nm cm) cur), (HeldW m).cell? ⟨gm, om + i * 3 + 1, none⟩ = some (.string x1) := fun m => by have := (HeldW_spec m).2.2.cell (om + i * 3 + 1); rw [u1] at this; exact this
      have q4 : ∀ m : Held (C7 g2 mvb gm (.slice Ao no co) (.slice (some ⟨gm, om, none⟩) nm cm) cur), (HeldW m).cell? ⟨gm, om + i * 3 + 2, none⟩ = some (.string x2) := fun m => by have := (HeldW_spec m).2.2.cell (om + i * 3 + 2); rw [u2] at this; exact this
      have hi1 : (i : Int) < nm := by omega
      have HC7 := Lib.hid hC7
      have HH := Lib.hid (And.intro hrc (And.intro ho (And.intro hn ho')))
      have HNO := Lib.hid hno
      have HNE := Lib.hid hne
      clear h2 hrc ho hn ho' hno hL hgB hgx hgl hcur u0 u1 u2 hne hC7 hx hi hin
      refine wpIn_region_mixD (C7 g2 mvb gm (.slice Ao no co) (.slice (some ⟨gm, om, none⟩) nm cm) cur) [(0, true), (1, true), (2, true), (3, true), (4, true), (5, false), (6, false), (7, false)] (by kernel_rfl) (by kernel_rfl) ?_
      simp only [pickP, List.filterMap_cons, List.filterMap_nil, List.getElem?_toArray, List.getElem?_cons_succ, List.getElem?_cons_zero, Option.map_some]
      repeat (apply mixD_first; apply Exists.intro; refine ⟨fun m => ?_, HC7.out, ?_⟩; · (go_big_quiet_step (fail); exact wpQuiet_nil rfl))
      clear q0 q1 q2 q3 q4
      obtain ⟨hd, hnh⟩ : ∃ n, V2.drew.heap.size = n := ⟨_, rfl⟩
      obtain ⟨U1, hU1⟩ : ∃ U, V2.drew.alloc (.cells #[.int .i64 xk, .string x1, .string x2] 40) = U := ⟨_, rfl⟩
      have hu1 : Below V2.drew.heap.size V2.drew U1 := by rw [← hU1]; exact (Below.refl _ _).alloc (Nat.le_refl _) _
      have S1 := Lib.hid (show Blk U1 hd 40 #[.int .i64 xk, .string x1, .string x2] by rw [← hU1, ← hnh]; exact Blk.new _ _ _)
      have HU1 := Lib.hid (And.intro hu1 (own_kept HH.out.2.2.2.drew hu1))
      have hC8 : C7 g2 mvb gm (.slice Ao no co) (.slice (some ⟨gm, om, none⟩) nm cm) cur U1 := ⟨HC7.out.1.below hu1 HC7.out.1.lt, HC7.out.2.1.below hu1 HC7.out.2.1.lt, HC7.out.2.2.below hu1 HC7.out.2.2.lt⟩
      have HC8 := Lib.hid hC8
      have hgU : g2 ≤ U1.heap.size := Nat.le_trans (Nat.le_trans HI.out.2.2.1 HB2.out.size) hu1.size
      clear hu1 hC8
      refine mixD_forced HC7.out ?_
      go_wp2_with fail
      show mixD _ _ _ _ _ _ _
      clear hU1 hnh
      refine mixD_forced HC8.out ?_
      go_wp2_with (at_builtin; refine wpList_app rfl _ _ 32 rfl g2 40 (.agg #[.int .i64 0, .string ⟨#[]⟩, .string ⟨#[]⟩]) 3 40 Tryz.underlying32 infoChg rfl (by decide) _ _ _ rfl HU1.out.2 hd 1 #[.int .i64 xk, .string x1, .string x2] 40 rfl S1.out rfl (by intro u hu; simp at hu; rcases hu with rfl | rfl | rfl <;> rfl) (by omega) (by decide) hgU _ rfl ?_; intro g cap X hown hgr hbk hgl)
      show mixD _ _ _ _ _ _ _
      have hCX : C7 g2 mvb gm (.slice Ao no co) (.slice (some ⟨gm, om, none⟩) nm cm) cur X := ⟨HC8.out.1.grown hgr (fun e => own_ne_blk HU1.out.2 HC8.out.1 (by decide) e.symm), HC8.out.2.1.grown hgr (fun e => own_ne_blk HU1.out.2 HC8.out.2.1 (by decide) e.symm), HC8.out.2.2.grown hgr (fun e => HNE.out e.symm)⟩
      refine mixD_forced hCX ?_
      have c5 := hCX.1.cell 0
      have f5 := hCX.1.frozen 0
      simp only [List.getElem?_toArray, List.getElem?_cons_zero] at c5
      have hfin := HI.out.1.app (B := V9.heap.size) HI.out.2.2.1 HB2.out.drew HH.out.1.drew HH.out.2.1.drew HH.out.2.2.1 HU1.out.1 hgr HNO.out (x := (xk, x1, x2)) hown hbk HC.out (Nat.le_refl _) (by have := H1.out.2.2.1; omega)
      have HF := Lib.hid hfin
      clear hown hgr hbk hgl hCX hfin
      go_wp2_with fail
      show mixD _ _ _ _ _ _ _
      refine mixD_nil ?_
      gi_wp2
      exact HF.out
    · have hc : ofE M (kk, p) = if ((mvO M).any fun m => decide (kk = 2 ∧ m.2.2 = p)) = true then none else some (kk, p, ⟨#[]⟩) := ofE_none (c := (kk, p)) hno
      have HC := Lib.hid hc
      clear hno hc
      gi_wp2
      refine ((callsIn_wide.2 (HCN.out V1 HB1.out)).inRound l).mono ?_
      rintro e V2 ⟨rfl, hb2⟩
      have hb02 := HB1.out.trans (hb2.mono HB1.out.size)
      have HB2 := Lib.hid hb02
      clear hb2 hb02 y0 HCN
      obtain ⟨q, hq⟩ : ∃ q, ((mvO M).any fun m => decide (kk = 2 ∧ m.2.2 = p)) = q := ⟨_, rfl⟩
      rw [hq] at HC ⊢
      clear hq
      cases q with
      | true =>
        gi_wp2
        exact HI.out.1.skip HI.out.2.2.1 HB2.out (by rw [HC.out]; rfl)
      | false =>
        have h2 := HI.out.1.below HI.out.2.2.1 HB2.out
        have hX2 := HI.out.2.1.below HB2.out HI.out.2.1.lt
        obtain ⟨o, hrc, ho, hn⟩ := h2.out
        obtain ⟨no, hno⟩ : ∃ n, (pre.filterMap (ofE M)).length = n := ⟨_, rfl⟩
        have ho' := ho
        unfold OwnC at ho'
        rw [hno] at ho'
        obtain ⟨Ao, co, rfl, _, _, _⟩ := SlV_of_any ho'
        have m1 := hrc.cell 0
        have f1 := hrc.frozen 0
        have x0 := hX2.cell 0
        have x1 := hX2.cell 1
        have x2 := hX2.cell 2
        simp only [List.getElem?_toArray, List.getElem?_cons_succ, List.getElem?_cons_zero] at m1 f1 x0 x1 x2
        have hV2 : g2 ≤ V2.heap.size := Nat.le_trans HI.out.2.2.1 HB2.out.size
        have HH := Lib.hid (And.intro hrc (And.intro ho (And.intro hn ho')))
        have HNO := Lib.hid hno
        have hno2 : no ≤ 2000 := by rw [← hno]; exact HI.out.2.2.2
        clear h2 hX2 hrc ho hn ho' hno
        gi_wp2_with (gi_at_builtin; refine wpListIn_app rfl _ _ 32 rfl g2 40 (.agg #[.int .i64 0, .string ⟨#[]⟩, .string ⟨#[]⟩]) 3 40 Tryz.underlying32 infoChg rfl (by decide) _ no _ rfl (HH.out.2.2.2.alloc _) V2.heap.size 1 #[.int .i64 kk, .string p, .string ⟨#[]⟩] 40 rfl (Blk.new _ _ _) rfl (by simp [Value.oneCell']) (by omega) (by decide) (by simp; omega) _ rfl ?_; intro g cap w5 hown1 hgrow1 hat hlt1; have hb5 := app_pre HH.out.1 HH.out.2.1 ((Below.refl _ _).alloc (Nat.le_refl _) _) hgrow1 (by decide); have c5 := hb5.cell 0; have f5 := hb5.frozen 0; simp at c5)
        exact HI.out.1.app HI.out.2.2.1 HB2.out HH.out.1 HH.out.2.1 HH.out.2.2.1 ((Below.refl _ _).alloc (Nat.le_refl _) _) hgrow1 HNO.out (x := (kk, p, ⟨#[]⟩)) hown1 hat HC.out (Nat.le_refl _) (by have := H1.out.2.2.1; omega)
  case done =>
    rintro D zs V hD hzs hI hK
    have hz : zs = eachP xs ys := hzs
    subst hz
    obtain ⟨o, hrc, ho, -⟩ := hI.out
    rw [← HPD.out] at ho
    have hBV : g2 ≤ V.heap.size := by have := hI.mb.lt; have := H1.out.2.2.1; omega
    have hsv : SlV V 3 eCC o (ofPD xs ys) := SlV.of_own ho eCC_len (by decide)
    obtain ⟨A3, c3, rfl, _, _, _⟩ := hsv
    have m1 := hrc.cell 0
    have f1 := hrc.frozen 0
    simp only [List.getElem?_toArray, List.getElem?_cons_zero] at m1 f1
    obtain ⟨X, hX⟩ : ∃ X, V.setCell ⟨g2, 0, none⟩ (.slice A3 (ofPD xs ys).length c3) = X := ⟨_, rfl⟩
    have hgX : V.grownBy X (some g2) := by rw [← hX]; exact grown_put (grown_refl V (some g2)) 0 _
    have hXr : Blk X g2 32 #[.slice A3 (ofPD xs ys).length c3] := by rw [← hX]; exact hrc.put 0 _
    have hXo : OwnC X g2 (.slice A3 (ofPD xs ys).length c3) (ofPD xs ys) := World.ownsRow.kept ho hgX (.inr (own_ne_blk ho hrc (by decide)))
    have hXb : Below g2 w X := hI.low.trans ((Below.refl g2 V).grown hgX hBV (fun k hk => by cases hk; exact Nat.le_refl _))
    have hne : ∀ j ds, V.heap[j]? = some (Obj.deferred ds) → X.heap[j]? = some (Obj.deferred ds) := fun j ds h => (hgX.block j (Array.getElem?_eq_some_iff.1 h).1 (fun e => by
      have e' : j = g2 := by simpa using e
      subst e'
      unfold Blk at hrc
      rw [hrc] at h
      cases h)).trans h
    have hXK := hne _ _ hK
    have HR := Lib.hid (And.intro hXr (And.intro hXo hXb))
    have hD2' : w.heap.size ≤ D := by rw [HG.out]; have := H1.out.2.1; omega
    generalize hlen : (ofPD xs ys).length = nl at *
    clear hI hrc ho hgX hXr hXo hXb hne hK hzs
    gi_wp2
    refine ⟨by simp, .inl ⟨_, _, rfl, run_takeDeferred hXK, ?_⟩⟩
    have w1 : ∀ r, some D = some r → ∃ o : Obj, X.heap[r]? = some o ∧ o.isCells = false := fun r e => by cases e; exact ⟨_, hXK, rfl⟩
    have g1' := grownBy_putObj' X D (.deferred none)
    refine ⟨_, res_cell_sl rfl _ _ g2 _ _ rfl (blk_ownF HR.out.1 g1' w1) Tryz.underlying32, ⟨_, rfl, ?_, ?_⟩⟩
    · exact own_ownF HR.out.2.1 g1' w1
    · exact HR.out.2.2.trans (belowK_b (w := w) (by rw [HG.out]; exact Nat.le_refl _) X D _ (.deferred none) hD2' hXK rfl rfl)
  case stop =>
    rintro D c pre V hD hSp h
    exact h.elim
end Go.Proofs.YtihiakkeloejlaaGreatDoor
/- The line of a change, and strings.Cut at one byte. -/
set_option linter.unusedVariables false
set_option linter.unusedSimpArgs false
namespace Sw
open Go
/-- a text cut at its first byte c -/
def cutBy (c : UInt8) (s : ByteArray) : ByteArray × ByteArray × Bool :=
  if Lib.indexByte s.data.toList c < 0 then (s, ⟨#[]⟩, false) else (s.extract 0 (Lib.indexByte s.data.toList c).toNat, s.extract ((Lib.indexByte s.data.toList c).toNat + 1) s.size, true)
theorem cutBy_size (c : UInt8) (s : ByteArray) : (cutBy c s).1.size ≤ s.size ∧ (cutBy c s).2.1.size ≤ s.size := by
  unfold cutBy
  split
  · exact ⟨Nat.le_refl _, Nat.zero_le _⟩
  · simp only [ByteArray.size_extract]; omega
theorem ba_ext {a b : ByteArray} (h : a.data.toList = b.data.toList) : a = b := ByteArray.ext (Array.ext' h)
theorem cutBy_miss {c : UInt8} {s : ByteArray} (h : c ∉ s.data.toList) : cutBy c s = (s, ⟨#[]⟩, false) := by
  unfold cutBy
  have h1 : Lib.indexByte s.data.toList c < 0 := by
    refine Classical.byContradiction fun hn => ?_
    obtain ⟨o, ho⟩ := Int.eq_ofNat_of_zero_le (show 0 ≤ Lib.indexByte s.data.toList c by omega)
    exact h (List.mem_of_getElem? (Lib.indexByte_some ho).1)
  rw [if_pos h1]
theorem cutBy_hit {c : UInt8} {a b : ByteArray} (h : c ∉ a.data.toList) : cutBy c (a ++ ⟨#[c]⟩ ++ b) = (a, b, true) := by
  have hl : (a ++ ⟨#[c]⟩ ++ b).data.toList = a.data.toList ++ c :: b.data.toList := by simp
  have hi : Lib.indexByte (a ++ ⟨#[c]⟩ ++ b).data.toList c = (a.size : Nat) := by
    have hget : (a.data.toList ++ c :: b.data.toList)[a.size]? = some c := by
      rw [List.getElem?_append_right (by rw [Lib.size_eq]; exact Nat.le_refl _), Lib.size_eq, Nat.sub_self]
      rfl
    rw [hl]
    have hge := Lib.indexByte_ge (a.data.toList ++ c :: b.data.toList) c
    by_cases hn : Lib.indexByte (a.data.toList ++ c :: b.data.toList) c = -1
    · exact absurd hget (Lib.indexByte_none hn _)
    · obtain ⟨o, ho⟩ := Int.eq_ofNat_of_zero_le (show 0 ≤ Lib.indexByte (a.data.toList ++ c :: b.data.toList) c by omega)
      have hs := Lib.indexByte_some ho
      rw [ho]
      have h1 : ¬ a.size < o := fun hlt => hs.2 a.size hlt hget
      have h2 : ¬ o < a.size := fun hlt => by
        have h3 := hs.1
        rw [List.getElem?_append_left (by rw [← Lib.size_eq]; exact hlt)] at h3
        exact h (List.mem_of_getElem? h3)
      have : o = a.size := by omega
      rw [this]
  unfold cutBy
  rw [hi, if_neg (by omega)]
  have e1 : (a ++ ⟨#[c]⟩ ++ b).extract 0 ((a.size : Nat) : Int).toNat = a := ba_ext (by
    rw [Lib.extract_eq, hl, Int.toNat_natCast, Lib.size_eq]; simp)
  have e2 : (a ++ ⟨#[c]⟩ ++ b).extract (((a.size : Nat) : Int).toNat + 1) (a ++ ⟨#[c]⟩ ++ b).size = b := ba_ext (by
    rw [Lib.extract_eq, Lib.size_eq (a ++ ⟨#[c]⟩ ++ b), hl, Int.toNat_natCast, Lib.size_eq]
    have e3 : (a.data.toList ++ c :: b.data.toList).drop (a.data.toList.length + 1) = b.data.toList := by
      rw [show a.data.toList ++ c :: b.data.toList = (a.data.toList ++ [c]) ++ b.data.toList by simp, show a.data.toList.length + 1 = (a.data.toList ++ [c]).length by simp, List.drop_left]
    rw [e3, List.take_of_length_le (by simp; omega)])
  rw [e1, e2]
/-- may a change be? -/
def rightC (k : Int) (p f : ByteArray) : Bool :=
  decide (1 ≤ k ∧ k ≤ 5) && rightL p.data.toList && (if k = 4 then rightL f.data.toList && !decide (f = p) else decide (f = ⟨#[]⟩))
/-- the line of a change -/
def lineC (k : Int) (p f : ByteArray) : ByteArray :=
  if rightC k p f = true then (if k = 4 then ⟨#[62, 32]⟩ ++ p ++ ⟨#[9]⟩ ++ f else (if k = 1 then ⟨#[43, 32]⟩ else if k = 2 then ⟨#[45, 32]⟩ else if k = 3 then ⟨#[126, 32]⟩ else ⟨#[33, 32]⟩) ++ p) else ⟨#[]⟩
theorem strD (s t : ByteArray) : (s.toList == t.toList) = decide (s = t) := by
  rw [ByteArray.toList_eq, ByteArray.toList_eq]
  by_cases h : s = t
  · subst h
    rw [decide_eq_true rfl]
    simp
  · rw [decide_eq_false h, beq_eq_false_iff_ne]
    intro e
    exact h (ByteArray.ext (Array.ext' e))
theorem strEm (f : ByteArray) : f.toList.isEmpty = decide (f = ⟨#[]⟩) := by
  rw [ByteArray.toList_eq]
  by_cases h : f = ⟨#[]⟩
  · subst h; rfl
  · rw [decide_eq_false h, List.isEmpty_eq_false_iff]
    intro e
    exact h (ba_ext (by rw [e]))
end Sw
namespace Go.Proofs.YtihiakkeloejlaaGreatDoor
open Go Go.RowKit Go.Shelf
open Sw
attribute [local go_sem] Oper.semAt_some
set_option maxRecDepth 100000 in
set_option maxHeartbeats 1000000 in
theorem cutLiteBy_any (w : World) (c : UInt8) (s : ByteArray) (hs : s.size ≤ 1000000) :
    Calls Tryz.prog 62 #[.string s, .string ⟨#[c]⟩] w fun e w' => e = .returned (.tuple #[.string (cutBy c s).1, .string (cutBy c s).2.1, .bool (cutBy c s).2.2]) ∧ ∃ m, w' = w.drewN m := by
  have hix := Tryz.stringslite_Index_one s c w
  have hge := Lib.indexByte_ge s.data.toList c
  unfold cutBy
  obtain ⟨j, hj⟩ : ∃ j, Lib.indexByte s.data.toList c = j := ⟨_, rfl⟩
  rw [hj] at hix hge ⊢
  have HIX := Lib.hid hix; clear hix
  by_cases h0 : j < 0
  · obtain rfl : j = -1 := by omega
    rw [if_pos h0]
    clear hj hge
    go_enter Tryz.func62, Tryz.ntmps62
    go_wp2_with fail
    refine HIX.out.mono ?_
    rintro e w1 ⟨rfl, rfl⟩
    go_wp2_with fail
    go_ret3
    exact ⟨rfl, 0, rfl⟩
  · obtain ⟨i, rfl⟩ := Int.eq_ofNat_of_zero_le (show 0 ≤ j by omega)
    rw [if_neg h0]
    have hiX : i < s.size := by
      have := (List.getElem?_eq_some_iff.1 (Lib.indexByte_some hj).1).1
      rw [Lib.size_eq]; exact this
    clear hj hge
    have hi1 : (i : Int) + 1 ≤ s.size := by omega
    go_enter Tryz.func62, Tryz.ntmps62
    go_wp2_with fail
    refine HIX.out.mono ?_
    rintro e w1 ⟨rfl, rfl⟩
    go_wp2_with fail
    go_region
    go_wp2_with fail
    go_ret3
    exact ⟨by simp, _, rfl⟩
set_option maxRecDepth 100000 in
theorem cutBy_any (w : World) (c : UInt8) (s : ByteArray) (hs : s.size ≤ 1000000) :
    Calls Tryz.prog 41 #[.string s, .string ⟨#[c]⟩] w fun e w' => e = .returned (.tuple #[.string (cutBy c s).1, .string (cutBy c s).2.1, .bool (cutBy c s).2.2]) ∧ ∃ m, w' = w.drewN m := by
  have HC := Lib.hid (cutLiteBy_any w c s hs)
  go_enter Tryz.func41, Tryz.ntmps41
  go_wp2_with fail
  refine HC.out.mono ?_
  rintro e w1 ⟨rfl, m, rfl⟩
  go_wp2_with fail
  go_ret3
  exact ⟨rfl, _, rfl⟩
set_option maxRecDepth 100000 in
set_option maxHeartbeats 4000000 in
theorem diffRight_any (w : World) (k : Int) (p f : ByteArray) (hp : p.size ≤ 1000000) (hf : f.size ≤ 1000000) :
    Calls Tryz.prog 43 #[.agg #[.int .i64 k, .string p, .string f]] w fun e w' => e = .returned (.bool (rightC k p f)) ∧ Below w.heap.size w w' := by
  have hb0 : Below w.heap.size w (w.alloc (.cells #[.int .i64 k, .string p, .string f] 40)) := (Below.refl _ w).alloc (Nat.le_refl _) _
  have hB := Blk.new w 40 #[.int .i64 k, .string p, .string f]
  obtain ⟨W, hW⟩ : ∃ W, w.alloc (.cells #[.int .i64 k, .string p, .string f] 40) = W := ⟨_, rfl⟩
  rw [hW] at hb0 hB
  have HB := Lib.hid (And.intro hb0 hB)
  have HW := Lib.hid hW
  have HP := Lib.hid (fun W => right_any W p hp)
  have HF := Lib.hid (fun W => right_any W f hf)
  have x0 := hB.cell 0
  simp only [List.getElem?_toArray, List.getElem?_cons_succ, List.getElem?_cons_zero] at x0
  have x1 := hB.cell 1
  simp only [List.getElem?_toArray, List.getElem?_cons_succ, List.getElem?_cons_zero] at x1
  obtain ⟨R, hR⟩ : ∃ R, rightC k p f = R := ⟨_, rfl⟩
  have HR := Lib.hid hR
  rw [hR]
  unfold rightC at HR
  clear hb0 hB hW hR
  generalize rightL p.data.toList = rp at *
  generalize rightL f.data.toList = rf at *
  by_cases h1 : k < 1
  · have t1 : decide (k < 1) = true := by simpa using h1
    have H1 := Lib.hid h1; clear h1
    go_enter Tryz.func43, Tryz.ntmps43
    go_upto_region 1 with fail
    rw [HW.out]
    go_wp2_with fail
    all_goals (go_ret; exact ⟨by rw [← HR.out, show decide (1 ≤ k ∧ k ≤ 5) = false by have := H1.out; simp; omega]; rfl, HB.out.1⟩)
  · by_cases h5 : 5 < k
    · have t1 : decide (k < 1) = false := by simpa using h1
      have t2 : decide (k > 5) = true := by simpa using h5
      have H1 := Lib.hid (And.intro h1 h5); clear h1 h5
      go_enter Tryz.func43, Tryz.ntmps43
      go_upto_region 1 with fail
      rw [HW.out]
      go_wp2_with fail
      all_goals (go_ret; exact ⟨by rw [← HR.out, show decide (1 ≤ k ∧ k ≤ 5) = false by have := H1.out.2; simp; omega]; rfl, HB.out.1⟩)
    · have e : decide (1 ≤ k ∧ k ≤ 5) = true := by simp; omega
      have HE := Lib.hid e
      clear e
      go_enter Tryz.func43, Tryz.ntmps43
      go_upto_region 1 with fail
      rw [HW.out]
      go_wp2_with fail
      refine (HP.out W).mono ?_
      rintro e w1 ⟨rfl, hb1⟩
      have hB1 := HB.out.2.below hb1 HB.out.2.lt
      have H1 := Lib.hid (And.intro (HB.out.1.trans (hb1.mono HB.out.1.size)) hB1)
      have y0 := hB1.cell 0
      have y1 := hB1.cell 1
      have y2 := hB1.cell 2
      simp only [List.getElem?_toArray, List.getElem?_cons_succ, List.getElem?_cons_zero] at y0 y1 y2
      clear hb1 hB1 x0 x1 HP
      cases rp with
      | false =>
        go_wp2_with fail
        go_ret
        exact ⟨by rw [← HR.out, HE.out]; rfl, H1.out.1⟩
      | true =>
        by_cases h4 : k = 4
        · subst h4
          go_wp2_with fail
          refine (HF.out w1).mono ?_
          rintro e w2 ⟨rfl, hb2⟩
          have hB2 := H1.out.2.below hb2 H1.out.2.lt
          have H2 := Lib.hid (H1.out.1.trans (hb2.mono H1.out.1.size))
          have z1 := hB2.cell 1
          have z2 := hB2.cell 2
          simp only [List.getElem?_toArray, List.getElem?_cons_succ, List.getElem?_cons_zero] at z1 z2
          have hne := strD f p
          clear hb2 hB2 y0 y1 y2 HF
          generalize decide (f = p) = q at *
          cases rf <;> cases q <;> (go_wp2_with fail; go_ret; exact ⟨by rw [← HR.out]; rfl, H2.out⟩)
        · have hne := strEm f
          have t4 : (k == 4) = false := by simpa using h4
          have H4 := Lib.hid h4; clear h4
          generalize decide (f = ⟨#[]⟩) = q at *
          cases q <;> (go_wp2_with fail; go_ret; exact ⟨by rw [← HR.out, HE.out, if_neg H4.out]; rfl, H1.out.1⟩)
set_option maxRecDepth 100000 in
set_option maxHeartbeats 4000000 in
theorem diffLine_any (w : World) (k : Int) (p f : ByteArray) (hp : p.size ≤ 1000000) (hf : f.size ≤ 1000000) :
    Calls Tryz.prog 20 #[.agg #[.int .i64 k, .string p, .string f]] w fun e w' => e = .returned (.string (lineC k p f)) ∧ Below w.heap.size w w' := by
  have hb0 : Below w.heap.size w (w.alloc (.cells #[.int .i64 k, .string p, .string f] 40)) := (Below.refl _ w).alloc (Nat.le_refl _) _
  have hB := Blk.new w 40 #[.int .i64 k, .string p, .string f]
  obtain ⟨W, hW⟩ : ∃ W, w.alloc (.cells #[.int .i64 k, .string p, .string f] 40) = W := ⟨_, rfl⟩
  rw [hW] at hb0 hB
  have HB := Lib.hid (And.intro hb0 hB)
  have HW := Lib.hid hW
  have HP := Lib.hid (diffRight_any W k p f hp hf)
  have x0 := hB.cell 0
  have x1 := hB.cell 1
  have x2 := hB.cell 2
  simp only [List.getElem?_toArray, List.getElem?_cons_succ, List.getElem?_cons_zero] at x0 x1 x2
  obtain ⟨R, hR⟩ : ∃ R, lineC k p f = R := ⟨_, rfl⟩
  have HR := Lib.hid hR
  rw [hR]
  have hk : rightC k p f = true → 1 ≤ k ∧ k ≤ 5 := fun h => by
    unfold rightC at h
    simp only [Bool.and_eq_true, decide_eq_true_eq] at h
    exact h.1.1
  unfold lineC at HR
  have HK := Lib.hid hk
  clear hb0 hB hW hR hk
  generalize rightC k p f = rp at *
  go_enter Tryz.func20, Tryz.ntmps20
  go_upto_region 1 with fail
  rw [HW.out]
  go_wp2_with fail
  refine HP.out.mono ?_
  rintro e w1 ⟨rfl, hb1⟩
  have hB1 := HB.out.2.below hb1 HB.out.2.lt
  have H1 := Lib.hid (HB.out.1.trans (hb1.mono HB.out.1.size))
  have y0 := hB1.cell 0
  have y1 := hB1.cell 1
  have y2 := hB1.cell 2
  simp only [List.getElem?_toArray, List.getElem?_cons_succ, List.getElem?_cons_zero] at y0 y1 y2
  clear hb1 hB1 x0 x1 x2 HP
  cases rp with
  | false =>
    go_wp2_with fail
    go_ret
    exact ⟨by rw [← HR.out]; rfl, H1.out⟩
  | true =>
    have h15 := HK.out rfl
    by_cases h4 : k = 4
    · subst h4
      go_wp2_with fail
      go_ret
      exact ⟨by rw [← HR.out]; rfl, H1.out⟩
    · have h4' : k = 1 ∨ k = 2 ∨ k = 3 ∨ k = 5 := by omega
      have hd : ∀ m, Below w.heap.size w (w1.drewN m) := fun m => below_drewN H1.out m
      have HD := Lib.hid hd; clear hd h15 h4
      have HC := Lib.hid (And.intro y0 (And.intro y1 y2))
      have l0 : ∀ m, (w1.drewN m).cell? ⟨w.heap.size, 0, none⟩ = some (.int .i64 k) := fun m => HC.out.1
      have l1 : ∀ m, (w1.drewN m).cell? ⟨w.heap.size, 1, none⟩ = some (.string p) := fun m => HC.out.2.1
      rcases h4' with rfl | rfl | rfl | rfl
      all_goals
        have hw : IntKind.i64.wrap 2 = 2 ∧ IntKind.i64.wrap 3 = 3 ∧ IntKind.i64.wrap 4 = 4 ∧ IntKind.i64.wrap 6 = 6 := by decide
        go_wp2_with fail
        go_quiet (fail)
        go_wp2_with fail
        go_ret
        exact ⟨by rw [← HR.out]; rfl, HD.out _⟩
end Go.Proofs.YtihiakkeloejlaaGreatDoor
/- Law 41's light, of any two rows of items; and the document's example of layer 41. -/
set_option linter.unusedVariables false
set_option linter.unusedSimpArgs false
namespace Go.Proofs.YtihiakkeloejlaaGreatDoor
open Go Go.RowKit
open Sw
/-- what law 41's light answers -/
def Light41 (xs ys : List NE) (e : Ending) : Prop := ∃ R : Bool, e = .returned (.bool R) ∧ (R = true → (xs.length ≤ 30 ∧ (∀ e ∈ xs, SmallE e) ∧ putsT [] xs = (0, xs)) ∧ (ys.length ≤ 30 ∧ (∀ e ∈ ys, SmallE e) ∧ putsT [] ys = (0, ys)))
theorem Light41.no {xs ys : List NE} : Light41 xs ys (.returned (.bool false)) := ⟨false, rfl, fun h => (by cases h)⟩
set_option maxRecDepth 100000 in
set_option maxHeartbeats 4000000 in
theorem light41_any (w : World) (v1 v2 : Value) (xs ys : List NE) (g1 : SlV w 5 eCSN v1 xs) (g2 : SlV w 5 eCSN v2 ys) (hx : ∀ x ∈ xs, x.1.size ≤ maxLen ∧ NdIn x.2) (hy : ∀ x ∈ ys, x.1.size ≤ maxLen ∧ NdIn x.2) :
    Calls Tryz.prog 6 #[.agg #[v1, v2]] w fun e w' => Light41 xs ys e ∧ Below w.heap.size w w' := by
  obtain ⟨W, hW⟩ : ∃ W, w.alloc (.cells #[v1, v2] 23) = W := ⟨_, rfl⟩
  have hb0 : Below w.heap.size w W := by rw [← hW]; exact (Below.refl _ w).alloc (Nat.le_refl _) _
  have hB0 : Blk W w.heap.size 23 #[v1, v2] := by rw [← hW]; exact Blk.new _ _ _
  have HL1 := Lib.hid (fun W' (hb : Below w.heap.size w W') => light16_any W' v1 xs (g1.below hb (Nat.le_refl _)) (fun e he => ⟨(hx e he).1, (hx e he).2.size⟩))
  have HL2 := Lib.hid (fun W' (hb : Below w.heap.size w W') => light16_any W' v2 ys (g2.below hb (Nat.le_refl _)) (fun e he => ⟨(hy e he).1, (hy e he).2.size⟩))
  have HR1 := Lib.hid (fun W' (hb : Below w.heap.size w W') (h1 : xs.length ≤ 500) (h2 : ∀ e ∈ xs, SmallE e) => ref16Right_any W' v1 xs (g1.below hb (Nat.le_refl _)) h1 (fun x hx' => ⟨by have := (h2 x hx').1; omega, (hx x hx').2⟩))
  have HR2 := Lib.hid (fun W' (hb : Below w.heap.size w W') (h1 : ys.length ≤ 500) (h2 : ∀ e ∈ ys, SmallE e) => ref16Right_any W' v2 ys (g2.below hb (Nat.le_refl _)) h1 (fun x hx' => ⟨by have := (h2 x hx').1; omega, (hy x hx').2⟩))
  have x0 := hB0.cell 0
  have x1 := hB0.cell 1
  simp only [List.getElem?_toArray, List.getElem?_cons_succ, List.getElem?_cons_zero] at x0 x1
  have HB := Lib.hid (And.intro hb0 hB0)
  have HW := Lib.hid hW
  obtain ⟨A1, c1, rfl, _, _, _⟩ := g1
  obtain ⟨A2, c2, rfl, _, _, _⟩ := g2
  obtain ⟨n1, hn1⟩ : ∃ n, xs.length = n := ⟨_, rfl⟩
  obtain ⟨n2, hn2⟩ : ∃ n, ys.length = n := ⟨_, rfl⟩
  have HN := Lib.hid (And.intro hn1 hn2)
  rw [hn1, hn2] at HW HB
  rw [hn1] at x0
  rw [hn2] at x1
  rw [hn1] at HL1 HR1
  rw [hn2] at HL2 HR2
  rw [hn1, hn2]
  clear hb0 hB0 hW hx hy hn1 hn2
  go_enter Tryz.func6, Tryz.ntmps6
  go_upto_region 1 with fail
  rw [HW.out]
  go_wp2_with fail
  refine (HL1.out W HB.out.1).mono ?_
  rintro e w1 ⟨R1, rfl, hR1, hb1⟩
  have hB1 := HB.out.2.below hb1 HB.out.2.lt
  have H1 := Lib.hid (And.intro (HB.out.1.trans (hb1.mono HB.out.1.size)) (And.intro hB1 hR1))
  have y0 := hB1.cell 0
  have y1 := hB1.cell 1
  simp only [List.getElem?_toArray, List.getElem?_cons_succ, List.getElem?_cons_zero] at y0 y1
  clear hb1 hB1 hR1 HL1 x0 x1
  cases R1 with
  | false =>
    go_wp2_with fail
    go_ret
    exact ⟨.no, H1.out.1⟩
  | true =>
    go_wp2_with fail
    refine (HL2.out w1 H1.out.1).mono ?_
    rintro e w2 ⟨R2, rfl, hR2, hb2⟩
    have hB2 := H1.out.2.1.below hb2 H1.out.2.1.lt
    have H2 := Lib.hid (And.intro (H1.out.1.trans (hb2.mono H1.out.1.size)) (And.intro hB2 hR2))
    have z0 := hB2.cell 0
    have z1 := hB2.cell 1
    simp only [List.getElem?_toArray, List.getElem?_cons_succ, List.getElem?_cons_zero] at z0 z1
    clear hb2 hB2 hR2 HL2 y0 y1
    cases R2 with
    | false =>
      go_wp2_with fail
      go_ret
      exact ⟨.no, H2.out.1⟩
    | true =>
      have k1 := H1.out.2.2 (by first | rfl | trivial)
      have k2 := H2.out.2.2 (by first | rfl | trivial)
      have HK := Lib.hid (And.intro k1 k2)
      clear k1 k2
      go_wp2_with fail
      refine (HR1.out w2 H2.out.1 (by have := HK.out.1.1; omega) HK.out.1.2).mono ?_
      rintro e w3 ⟨R3, rfl, hR3, hb3⟩
      have hB3 := H2.out.2.1.below hb3 H2.out.2.1.lt
      have H3 := Lib.hid (And.intro (H2.out.1.trans (hb3.mono H2.out.1.size)) hR3)
      have u0 := hB3.cell 0
      have u1 := hB3.cell 1
      simp only [List.getElem?_toArray, List.getElem?_cons_succ, List.getElem?_cons_zero] at u0 u1
      clear hb3 hB3 hR3 HR1 z0 z1
      cases R3 with
      | false =>
        go_wp2_with fail
        go_ret
        exact ⟨.no, H3.out.1⟩
      | true =>
        go_wp2_with fail
        refine (HR2.out w3 H3.out.1 (by have := HK.out.2.1; omega) HK.out.2.2).mono ?_
        rintro e w4 ⟨R4, rfl, hR4, hb4⟩
        have H4 := Lib.hid (And.intro (H3.out.1.trans (hb4.mono H3.out.1.size)) hR4)
        clear hb4 hR4 HR2 u0 u1
        go_wp2_with fail
        go_ret
        exact ⟨⟨R4, rfl, fun h => ⟨⟨by rw [HN.out.1]; exact HK.out.1.1, HK.out.1.2, H3.out.2.1 (by first | rfl | trivial)⟩, ⟨by rw [HN.out.2]; exact HK.out.2.1, HK.out.2.2, H4.out.2.1 h⟩⟩⟩, H4.out.1⟩
end Go.Proofs.YtihiakkeloejlaaGreatDoor
