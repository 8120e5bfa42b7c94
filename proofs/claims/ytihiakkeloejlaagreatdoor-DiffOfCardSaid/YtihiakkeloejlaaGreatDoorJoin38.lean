/- Several texts, joined for the limit of sixty files; each one opens with its own comment. -/
import Derived.Test.YtihiakkeloejlaaGreatDoorJoin37
import Derived.Test.YtihiakkeloejlaaGreatDoorJoin1
import Derived.Test.YtihiakkeloejlaaGreatDoorJoin15
/- DiffOf: how any two trees differ, and what moved; who stops is told no more. -/
set_option linter.unusedVariables false
set_option linter.unusedSimpArgs false
namespace Go.Proofs.YtihiakkeloejlaaGreatDoor
open Go Go.RowKit Go.Shelf
open Sw
attribute [local go_sem] Oper.semAt_some
theorem info_int6 : Tryz.prog.info? 3 = some ((Tryz.prog.info? 3).getD default) := by kernel_rfl
theorem ofPD_kinds2 (xs ys : List NE) : ∀ f ∈ ofPD xs ys, f.1 = 1 ∨ f.1 = 2 ∨ f.1 = 3 ∨ f.1 = 4 ∨ f.1 = 5 := fun f hf => by
  obtain ⟨c, hc, he⟩ := List.mem_filterMap.1 hf
  have h4 := eachP_four xs ys c hc
  unfold ofE at he
  split at he
  · split at he
    · cases he; exact .inr (.inr (.inr (.inl rfl)))
    · cases he; exact .inl rfl
  · split at he
    · split at he
      · cases he
      · cases he; exact .inr (.inl rfl)
    · cases he
      rcases h4 with h | h | h | h
      · exact .inl h
      · exact .inr (.inl h)
      · exact .inr (.inr (.inl h))
      · exact .inr (.inr (.inr (.inr h)))
theorem ofPD_len2 (xs ys : List NE) : (ofPD xs ys).length ≤ xs.length + ys.length := by
  unfold ofPD
  exact Nat.le_trans (List.length_filterMap_le _ _) (each_lenE xs ys)
theorem eq_six (a b c d e f : Int) (W : World) : (Op.equalIn 10000 30 (.agg #[.int .i64 a, .int .i64 b, .int .i64 c, .int .i64 d, .int .i64 e, .int .i64 f]) (.agg #[.int .i64 a, .int .i64 b, .int .i64 c, .int .i64 d, .int .i64 e, .int .i64 f])).run Tryz.prog W = .ok true W := by
  have h := run_eql_ints (P := Tryz.prog) (k := .i64) (n := 6) (i := _) Tryz.underlying30 info_int6 Tryz.underlying3 (by kernel_rfl) (by kernel_rfl) (fun j => if j = 0 then a else if j = 1 then b else if j = 2 then c else if j = 3 then d else if j = 4 then e else f) #[.int .i64 a, .int .i64 b, .int .i64 c, .int .i64 d, .int .i64 e, .int .i64 f] (fun j hj => by
    have : j = 0 ∨ j = 1 ∨ j = 2 ∨ j = 3 ∨ j = 4 ∨ j = 5 := by omega
    rcases this with rfl | rfl | rfl | rfl | rfl | rfl <;> rfl) W
  rw [run_eql_struct] at h
  generalize (Op.equalIn 10000 30 (.agg #[.int .i64 a, .int .i64 b, .int .i64 c, .int .i64 d, .int .i64 e, .int .i64 f]) (.agg #[.int .i64 a, .int .i64 b, .int .i64 c, .int .i64 d, .int .i64 e, .int .i64 f])).run Tryz.prog W = r at h
  cases r with
  | ok x w' =>
    simp only [Result.andThen_ok, Result.ok.injEq, Value.bool.injEq] at h ⊢
    exact h
  | _ => cases h
set_option maxRecDepth 100000 in
set_option maxHeartbeats 16000000 in
theorem diffOf_main (w : World) (v1 v2 : Value) (xs ys : List NE) (mo : Nat) (g1 : SlV w 5 eCSN v1 xs) (g2 : SlV w 5 eCSN v2 ys) (hx : ∀ x ∈ xs, x.1.size ≤ maxLen ∧ NdIn x.2) (hy : ∀ x ∈ ys, x.1.size ≤ maxLen ∧ NdIn x.2) (hmo : mo < 18446744073709551616) :
    Calls Tryz.prog 4 #[.agg #[v1, v2], .int .u64 mo] w fun e w' => e = .returned (.bool true) ∧ Below w.heap.size w w' := by
  obtain ⟨W, hW⟩ : ∃ W, (w.alloc (.cells #[v1, v2] 23)).alloc (.cells #[.int .u64 mo] 34) = W := ⟨_, rfl⟩
  have hb0 : Below w.heap.size w W := by rw [← hW]; exact ((Below.refl _ w).alloc (Nat.le_refl _) _).alloc (by simp) _
  have hB0 : Blk W w.heap.size 23 #[v1, v2] := by rw [← hW]; exact blk_fst _ _ _ _
  have hM0 : Blk W (w.heap.size + 1) 34 #[.int .u64 mo] := by rw [← hW]; exact blk_snd _ _ _ _
  have HL := Lib.hid (light41_any W v1 v2 xs ys (g1.below hb0 (Nat.le_refl _)) (g2.below hb0 (Nat.le_refl _)) hx hy)
  have HT1 := Lib.hid (fun W' (hb : Below w.heap.size w W') (h1 : xs.length ≤ 30) (h2 : ∀ e ∈ xs, SmallE e) (h3 : TI xs) => treeOf_any W' v1 xs (g1.below hb (Nat.le_refl _)) (by omega) (fun x hx' => ⟨by have := (h2 x hx').1; omega, (hx x hx').2⟩) h3)
  have HT2 := Lib.hid (fun W' (hb : Below w.heap.size w W') (h1 : ys.length ≤ 30) (h2 : ∀ e ∈ ys, SmallE e) (h3 : TI ys) => treeOf_any W' v2 ys (g2.below hb (Nat.le_refl _)) (by omega) (fun x hx' => ⟨by have := (h2 x hx').1; omega, (hy x hx').2⟩) h3)
  have HG := Lib.hid (fun W' (hb : Below w.heap.size w W') => And.intro (g1.below hb (Nat.le_refl _)) (g2.below hb (Nat.le_refl _)))
  have x0 := hB0.cell 0
  have x1 := hB0.cell 1
  simp only [List.getElem?_toArray, List.getElem?_cons_succ, List.getElem?_cons_zero] at x0 x1
  have HB := Lib.hid (And.intro hb0 (And.intro hB0 hM0))
  have HW := Lib.hid hW
  have HI := Lib.hid (And.intro hx hy)
  obtain ⟨A1, c1, rfl, _, _, _⟩ := g1
  obtain ⟨A2, c2, rfl, _, _, _⟩ := g2
  obtain ⟨n1, hn1⟩ : ∃ n, xs.length = n := ⟨_, rfl⟩
  obtain ⟨n2, hn2⟩ : ∃ n, ys.length = n := ⟨_, rfl⟩
  have HN := Lib.hid (And.intro hn1 hn2)
  rw [hn1, hn2] at HW HB HL HG
  rw [hn1] at x0 HT1
  rw [hn2] at x1 HT2
  rw [hn1, hn2]
  clear hb0 hB0 hM0 hW hx hy hn1 hn2
  refine callsIn_wide.1 (?_ : CallsIn Fence.wide 21 _ _ _ _ _)
  refine callsIn_of_wp_marks Tryz.func4 rfl trivial ?_ rfl
  simp only [Tryz.ntmps4, List.size_toArray, List.length_cons, List.length_nil, Nat.reduceAdd, Nat.reduceSub, Array.replicate_succ, Array.replicate_zero, List.push_toArray, List.append_toArray, List.nil_append, List.cons_append]
  refine wpIn_wide.2 ?_
  go_upto_region 1 with fail
  rw [HW.out]
  go_wp2_with fail
  refine HL.out.mono ?_
  rintro e w1 ⟨⟨R, rfl, hR⟩, hb1⟩
  have hB1 := HB.out.2.1.below hb1 HB.out.2.1.lt
  have hM1 := HB.out.2.2.below hb1 HB.out.2.2.lt
  have H1 := Lib.hid (And.intro (HB.out.1.trans (hb1.mono HB.out.1.size)) (And.intro hB1 (And.intro hM1 hR)))
  have y0 := hB1.cell 0
  simp only [List.getElem?_toArray, List.getElem?_cons_succ, List.getElem?_cons_zero] at y0
  clear hb1 hB1 hM1 hR HL x0 x1
  cases R with
  | false =>
    go_wp2_with fail
    refine (diff_lives _).mono ?_
    rintro e w2 ⟨rfl, hb2⟩
    have H2 := Lib.hid (H1.out.1.trans (hb2.mono H1.out.1.size)); clear hb2
    go_wp2_with fail
    exact ⟨_, results_tmp rfl _ _ _, rfl, H2.out⟩
  | true =>
    obtain ⟨⟨hxl, hxs, hxp⟩, hyl, hys, hyp⟩ := H1.out.2.2.2 (by first | rfl | trivial)
    have HTX := Lib.hid (ti_of_puts (by rw [hxp] : (putsT [] xs).2 = xs))
    have HTY := Lib.hid (ti_of_puts (by rw [hyp] : (putsT [] ys).2 = ys))
    have HSX := Lib.hid (And.intro hxl hxs)
    have HSY := Lib.hid (And.intro hyl hys)
    have HTT := Lib.hid (show (∀ e ∈ xs, 0 ≤ e.2.time ∧ e.2.time < 4294967296) ∧ (∀ e ∈ ys, 0 ≤ e.2.time ∧ e.2.time < 4294967296) ∧ (∀ e ∈ xs, e.2.data.size ≤ maxLen) ∧ (∀ e ∈ ys, e.2.data.size ≤ maxLen) from
      ⟨fun e he => ⟨(HI.out.1 e he).2.t0, (HI.out.1 e he).2.t1⟩, fun e he => ⟨(HI.out.2 e he).2.t0, (HI.out.2 e he).2.t1⟩, fun e he => by have := (HSX.out.2 e he).2; unfold maxLen; omega, fun e he => by have := (HSY.out.2 e he).2; unfold maxLen; omega⟩)
    have hzp : ∀ m ∈ xs ++ ys, m.1.size ≤ 90000 := fun m hm => by
      rcases List.mem_append.1 hm with h | h
      · have := (HSX.out.2 m h).1; omega
      · have := (HSY.out.2 m h).1; omega
    have HZP := Lib.hid hzp
    clear hxl hxs hxp hyl hys hyp hzp
    obtain ⟨M, hM, hM40⟩ : ∃ M : Nat, (mo : Int) % 40 = M ∧ M < 40 := ⟨mo % 40, by omega, by omega⟩
    have hMw : IntKind.i64.wrap (M : Int) = M := IntWalk.i64_in _ (by omega)
    have HRE := Lib.hid (fun W' (hb : Below w.heap.size w W') => refEach41_any W' (.slice A1 n1 c1) (.slice A2 n2 c2) xs ys (HG.out W' hb).1 (HG.out W' hb).2 (by have := HSX.out.1; omega) (by have := HSY.out.1; omega) HZP.out HTX.out.up HTY.out.up HTT.out.2.2.1 HTT.out.2.2.2)
    have HRM := Lib.hid (fun W' (hb : Below w.heap.size w W') => refMoves41_any W' (.slice A1 n1 c1) (.slice A2 n2 c2) xs ys (HG.out W' hb).1 (HG.out W' hb).2 (by have := HSX.out.1; omega) (by have := HSY.out.1; omega) HZP.out HTX.out.up HTY.out.up HTT.out.2.2.1 HTT.out.2.2.2)
    have HRO := Lib.hid (fun W' (hb : Below w.heap.size w W') => refOf41_any W' (.slice A1 n1 c1) (.slice A2 n2 c2) xs ys (HG.out W' hb).1 (HG.out W' hb).2 (by have := HSX.out.1; omega) (by have := HSY.out.1; omega) HZP.out HTX.out.up HTY.out.up HTT.out.2.2.1 HTT.out.2.2.2)
    have HDM := Lib.hid (fun V b1 m1 b2 m2 (k1 : TreeAt V b1 m1 xs) (k2 : TreeAt V b2 m2 ys) => moves_any V b1 m1 b2 m2 xs ys k1 k2 HTX.out HTY.out (by have := HSX.out.1; omega) (by have := HSY.out.1; omega) HTT.out.1 HTT.out.2.1 HTT.out.2.2.1 HTT.out.2.2.2)
    have HDO := Lib.hid (fun V b1 m1 b2 m2 (k1 : TreeAt V b1 m1 xs) (k2 : TreeAt V b2 m2 ys) => diffOf_any V b1 m1 b2 m2 xs ys k1 k2 HTX.out HTY.out (by have := HSX.out.1; omega) (by have := HSY.out.1; omega) HTT.out.1 HTT.out.2.1 HTT.out.2.2.1 HTT.out.2.2.2)
    have hol : (ofPD xs ys).length ≤ 60 := by have := ofPD_len2 xs ys; have := HSX.out.1; have := HSY.out.1; omega
    have hel : (eachO xs ys).length ≤ 60 := by
      have := each_lenE xs ys
      unfold eachO
      rw [List.length_map]
      have := HSX.out.1; have := HSY.out.1; omega
    have hvl : (mvO (movesP xs ys)).length ≤ 60 := by have := movesP_len xs ys; have := HSX.out.1; have := HSY.out.1; omega
    have HLN := Lib.hid (And.intro hol (And.intro hel hvl))
    clear hol hel hvl
    go_wp2_with fail
    refine (HT1.out w1 H1.out.1 (by have := HSX.out.1; have := HN.out.1; omega) HSX.out.2 HTX.out).mono ?_
    rintro e w2 ⟨bt, bm, rfl, hT, -, -, hb2⟩
    have hB2 := H1.out.2.1.below hb2 H1.out.2.1.lt
    have hM2 := H1.out.2.2.1.below hb2 H1.out.2.2.1.lt
    have H2 := Lib.hid (And.intro (H1.out.1.trans (hb2.mono H1.out.1.size)) (And.intro hB2 (And.intro hM2 hT)))
    have y1 := hB2.cell 1
    simp only [List.getElem?_toArray, List.getElem?_cons_succ, List.getElem?_cons_zero] at y1
    clear hb2 hT hB2 hM2 HT1 y0
    go_wp2_with fail
    refine (HT2.out w2 H2.out.1 (by have := HSY.out.1; have := HN.out.2; omega) HSY.out.2 HTY.out).mono ?_
    rintro e w3 ⟨bt2, bm2, rfl, hT2, -, -, hb3⟩
    have hb03 := H2.out.1.trans (hb3.mono H2.out.1.size)
    obtain ⟨W4, hW4⟩ : ∃ W4, (w3.alloc (.cells #[.pointer (some ⟨bt, 0, none⟩)] 26)).alloc (.cells #[.pointer (some ⟨bt2, 0, none⟩)] 26) = W4 := ⟨_, rfl⟩
    have hb34 : Below w3.heap.size w3 W4 := by rw [← hW4]; exact ((Below.refl _ w3).alloc (Nat.le_refl _) _).alloc (by simp) _
    have l1 : Blk W4 w3.heap.size 26 #[.pointer (some ⟨bt, 0, none⟩)] := by rw [← hW4]; exact blk_fst _ _ _ _
    have l2 : Blk W4 (w3.heap.size + 1) 26 #[.pointer (some ⟨bt2, 0, none⟩)] := by rw [← hW4]; exact blk_snd _ _ _ _
    have HEc := Lib.hid (diffEach_any w3 bt bt2)
    rw [hW4] at HEc
    obtain ⟨W5, hW5⟩ : ∃ W5, W4.alloc (.cells #[.slice none 0 0] 38) = W5 := ⟨_, rfl⟩
    have hb45 : Below W4.heap.size W4 W5 := by rw [← hW5]; exact (Below.refl _ W4).alloc (Nat.le_refl _) _
    have hs5 : W5.heap.size = W4.heap.size + 1 := by rw [← hW5]; simp
    have hbx : Blk W5 W4.heap.size 38 #[.slice none 0 0] := by rw [← hW5]; exact Blk.new _ _ _
    obtain ⟨gO, hgO⟩ : ∃ g, W4.heap.size = g := ⟨_, rfl⟩
    rw [hgO] at hs5 hbx
    obtain ⟨S0, hS0⟩ : ∃ n, w3.heap.size = n := ⟨_, rfl⟩
    have hb05 := (hb3.trans (hb34.mono hb3.size)).trans (hb45.mono (Nat.le_trans hb3.size hb34.size))
    have hwO : w.heap.size ≤ gO := by rw [← hgO]; exact Nat.le_trans hb03.size hb34.size
    have hE1 : E1 M w.heap.size gO w.heap.size (w.heap.size + 1) bt bm bt2 bm2 (.slice A1 n1 c1) (.slice A2 n2 c2) (.int .u64 mo) xs ys w [] W5 :=
      ⟨Nat.zero_le _, ⟨_, hbx, World.ownsRow_nil _ _ _ _⟩, H2.out.2.1.below hb05 H2.out.2.1.lt, H2.out.2.2.1.below hb05 H2.out.2.2.1.lt, H2.out.2.2.2.below hb05, hT2.below ((hb34.trans (hb45.mono hb34.size))), H2.out.1.trans (hb05.mono H2.out.1.size)⟩
    have hwW5 : w.heap.size ≤ W5.heap.size := by omega
    have HTE := Lib.hid (diffEach_tells 19 (by omega) ts41 keepOk41 w.heap.size W5 hwW5 w3.heap.size (w3.heap.size + 1) bt bm bt2 bm2 xs ys (l1.below hb45 l1.lt) (l2.below hb45 l2.lt) hE1.t hE1.t2 HTX.out HTY.out (by have := HSX.out.1; omega) (by have := HSY.out.1; omega) HTT.out.2.2.1 HTT.out.2.2.2)
    have H5 := Lib.hid (And.intro hE1 (And.intro hwO hs5))
    clear hb3 hb03 hb34 l1 l2 hb45 hbx hb05 hE1 hT2 y1 HT2
    go_wp2_with fail
    refine HEc.out.mono ?_
    rintro e V4 ⟨rfl, rfl⟩
    rw [hS0] at HTE ⊢
    clear HEc hW4 hS0
    have hnf : ∀ W, (binOp .eql 36 (.func (.func 30) #[] #[.pointer (some ⟨S0, 0, none⟩), .pointer (some ⟨S0 + 1, 0, none⟩)]) Value.nilFunc).run Tryz.prog W = .ok (.bool false) W := fun W => rfl
    go_wp2_with fail
    refine (wpIn_wide (n := 20)).1 ?_
    gi_wp2
    try rw [hgO]
    clear hW5 hnf hgO
    refine wpIn_rangeFunc_in (Mine := fun _ => False) (fun _ h => h.elim) rfl (by omega) (gf := 30) (lb := #[.pointer (some ⟨S0, 0, none⟩), .pointer (some ⟨S0 + 1, 0, none⟩)]) rfl trivial (enters_of Tryz.func30 (by kernel_rfl) rfl)
      HTE.out KeepR.trans (fun W l o o' hl h => keepR_b _ (by have := hwW5; omega) h rfl) (Below.refl _ _) (fun _ => rfl)
      (E1 M w.heap.size gO w.heap.size (w.heap.size + 1) bt bm bt2 bm2 (.slice A1 n1 c1) (.slice A2 n2 c2) (.int .u64 mo) xs ys w)
      (EX 0 M w.heap.size gO w.heap.size (w.heap.size + 1) bt bm bt2 bm2 (.slice A1 n1 c1) (.slice A2 n2 c2) (.int .u64 mo) xs ys w)
      (E1.own H5.out.2.1 (by have := H5.out.2.2; omega)) (fun c => EX.own c H5.out.2.1 (by have := H5.out.2.2; omega))
      H5.out.1
      ?a1 (fun x V => V.alloc (.cells #[.int .i64 x.1, .string x.2, .string ⟨#[]⟩] 40))
      (fun x n0 pre V => E1 M w.heap.size gO w.heap.size (w.heap.size + 1) bt bm bt2 bm2 (.slice A1 n1 c1) (.slice A2 n2 c2) (.int .u64 mo) xs ys w pre V ∧ Blk V n0 40 #[.int .i64 x.1, .string x.2, .string ⟨#[]⟩])
      (fun x n0 s A C row h hg hr => ⟨E1.own H5.out.2.1 (by have := H5.out.2.2; omega) s A C row h.1 hg hr, blk_ownF h.2 hg (fun r e => ((hr r e).resolve_left id).2)⟩)
      ?made ?assign ?body ?done ?stop
    case assign =>
      intro l2 x n0 V hn0 K hK
      gi_wp2
      exact hK
    case made =>
      intro pre x V hI hTl
      have hba := (Below.refl V.heap.size V).alloc (Nat.le_refl _) (.cells #[.int .i64 x.1, .string x.2, .string ⟨#[]⟩] 40)
      have hBV : w.heap.size ≤ V.heap.size := hI.low.size
      exact ⟨⟨hI.below hBV hba, Blk.new _ _ _⟩, keeps_belowF hba, KeepR.below hba hBV⟩
    case body =>
      rintro l pre ⟨kk, p⟩ n0 V ⟨hI, hX⟩ hTl hsV
      obtain ⟨o, hrc, ho⟩ := hI.out
      obtain ⟨no, hno⟩ : ∃ n, (pre.map eO).length = n := ⟨_, rfl⟩
      have hnl : pre.length = no := by rw [← hno, List.length_map]
      have ho' := ho
      unfold OwnK41 at ho'
      rw [hno] at ho'
      obtain ⟨Ao, co, rfl, _, _, _⟩ := SlV_of_any ho'
      have x0 := hX.cell 0
      have x1 := hX.cell 1
      have x2 := hX.cell 2
      have m1 := hrc.cell 0
      have f1 := hrc.frozen 0
      have y0 := hI.mos.cell 0
      simp only [List.getElem?_toArray, List.getElem?_cons_succ, List.getElem?_cons_zero] at x0 x1 x2 m1 y0
      have hnM : no ≤ M := by rw [← hnl]; exact hI.len
      have hgV : gO ≤ V.heap.size := Nat.le_of_lt hrc.lt
      have HH := Lib.hid (And.intro hI (And.intro hrc (And.intro ho (And.intro ho' (And.intro hno hnl)))))
      clear hI hX hrc ho ho' hno hnl hTl
      by_cases hm : no < M
      · have hm' : ¬ (M : Int) ≤ (no : Int) := by omega
        gi_wp2_with (gi_at_builtin; refine wpListIn_app rfl _ _ 38 rfl gO 41 (.agg #[.int .i64 0, .string ⟨#[]⟩, .string ⟨#[]⟩]) 3 40 Tryz.underlying38 infoC41 rfl (by decide) _ no _ rfl (HH.out.2.2.2.1.alloc _) V.heap.size 1 #[.int .i64 kk, .string p, .string ⟨#[]⟩] 41 rfl (Blk.new _ _ _) rfl (by simp [Value.oneCell']) (by omega) (by decide) (by simp; omega) _ rfl ?_; intro g cap w5 hown1 hgrow1 hat hlt1; have hb5 := app_pre HH.out.2.1 HH.out.2.2.1 ((Below.refl _ _).alloc (Nat.le_refl _) _) hgrow1 (by decide); have c5 := hb5.cell 0; have f5 := hb5.frozen 0; simp at c5)
        exact HH.out.1.app H5.out.2.1 HH.out.2.1 HH.out.2.2.1 ((Below.refl _ _).alloc (Nat.le_refl _) _) hgrow1 HH.out.2.2.2.2.1 (c := (kk, p)) hown1 hm
      · have hm' : (M : Int) ≤ (no : Int) := by omega
        gi_wp2
        exact ⟨KeepsFrom.refl _ _, rfl, pre, (kk, p), rfl, by have := HH.out.2.2.2.2.2; omega, HH.out.1⟩
    case done =>
      rintro D zs V hD hzs hI hK
      have hz : zs = eachP xs ys := hzs
      have hgs : zs.map eO = (eachO xs ys).take M := by
        rw [hz]
        show (eachP xs ys).map eO = ((eachP xs ys).map eO).take M
        rw [List.take_of_length_le]
        rw [List.length_map, ← hz]
        exact hI.len
      have hfin := hI
      obtain ⟨o, hrc, ho⟩ := hI.out
      rw [hgs] at ho
      have hDg : D = gO + 1 := hD.trans H5.out.2.2
      subst hDg
      clear hD
      obtain ⟨q, hq, hmin⟩ : ∃ q : Nat, q ≤ (eachO xs ys).length ∧ min ((eachO xs ys).length : Int) M = q := ⟨min (eachO xs ys).length M, by omega, by omega⟩
      have htk : (eachO xs ys).take M = (eachO xs ys).take q := by
        rcases Nat.le_total (eachO xs ys).length M with h | h
        · rw [List.take_of_length_le h, List.take_of_length_le (by omega)]
        · rw [show q = M by omega]
      rw [htk] at ho
      obtain ⟨A3, c3, rfl, _, _, _⟩ := SlV_of_any ho
      obtain ⟨ng, hng⟩ : ∃ ng, ((eachO xs ys).take q).length = ng := ⟨_, rfl⟩
      have hD' : w.heap.size ≤ gO + 1 := by have := H5.out.2.1; omega
      have ho' := own_wide ho H5.out.2.1
      rw [hng] at ho' hrc
      have HZ := Lib.hid (show DfZ gO w.heap.size (w.heap.size + 1) bt bm bt2 bm2 (gO + 1) (.slice A1 n1 c1) (.slice A2 n2 c2) (.int .u64 mo) (.slice A3 ng c3) ((eachO xs ys).take q) xs ys w V from ⟨hrc, by unfold OwnK41; rw [hng]; exact ho', hI.two, hI.mos, hI.t, hI.t2, hK, hI.low⟩)
      have HQ := Lib.hid (And.intro hq hng)
      have z0 := HZ.out.two.cell 0
      have z1 := HZ.out.two.cell 1
      simp only [List.getElem?_toArray, List.getElem?_cons_succ, List.getElem?_cons_zero] at z0 z1
      clear ho ho' hrc hfin hI hK htk hgs hq hng
      go_wp2_with fail
      refine (HRE.out V HZ.out.low).mono ?_
      rintro e w6 ⟨u6, rfl, ho6, hb6⟩
      have HZ6 := Lib.hid (HZ.out.below hb6)
      have hsl6 : SlV w6 3 eCC u6 (eachO xs ys) := ho6.slv
      obtain ⟨A6, c6, rfl, hc6, _, _⟩ := SlV_of_any ho6
      obtain ⟨n6, hn6⟩ : ∃ n, (eachO xs ys).length = n := ⟨_, rfl⟩
      rw [hn6] at hsl6 hmin ⊢
      have HS6 := Lib.hid (And.intro hsl6 hn6)
      have hc6' : (n6 : Int) ≤ c6 := by rw [hn6] at hc6; omega
      have hqn : (q : Int) ≤ n6 := by have := HQ.out.1; omega
      clear hb6 ho6 hsl6 hn6 HZ z0 z1 hc6
      go_wp2_with fail
      refine (HDO.out w6 bt bm bt2 bm2 HZ6.out.t HZ6.out.t2).mono ?_
      rintro e w7 ⟨u7, rfl, ho7, hb7⟩
      have HZ7 := Lib.hid (HZ6.out.below hb7)
      have hsl7 : SlV w7 3 eCC u7 (ofPD xs ys) := SlV.of_own ho7 eCC_len (by decide)
      have hbk7 := (hb7.mono (Nat.le_refl _) : Below w6.heap.size w6 w7)
      obtain ⟨A7, c7, rfl, hc7, hc72, hso7⟩ := hsl7
      obtain ⟨n7, hn7⟩ : ∃ n, (ofPD xs ys).length = n := ⟨_, rfl⟩
      rw [hn7] at hc7 ⊢
      have hsl67 := HS6.out.1.below hb7 (Nat.le_refl _)
      have HS7 := Lib.hid (And.intro (And.intro hso7 hn7) hsl67)
      have hsl7' : SlV w7 3 eCC (.slice A7 n7 c7) (ofPD xs ys) := ⟨A7, c7, by rw [hn7], by rw [hn7]; exact hc7, hc72, hso7⟩
      have HSL7 := Lib.hid hsl7'
      unfold maxLen at hc72
      have hn760 : n7 ≤ 60 := by rw [← hn7]; exact HLN.out.1
      clear hb7 ho7 hso7 hn7 HZ6 HS6 hsl67 hsl7' hbk7
      go_upto_region 16 with fail
      obtain ⟨nb, hnb⟩ : ∃ n, w7.heap.size = n := ⟨_, rfl⟩
      obtain ⟨w8, hw8⟩ : ∃ W, w7.alloc (.cells #[.int .i64 0, .int .i64 0, .int .i64 0, .int .i64 0, .int .i64 0, .int .i64 0] 30) = W := ⟨_, rfl⟩
      have hb78 : Below w7.heap.size w7 w8 := by rw [← hw8]; exact (Below.refl _ w7).alloc (Nat.le_refl _) _
      have hN8 : Blk w8 nb 30 #[.int .i64 0, .int .i64 0, .int .i64 0, .int .i64 0, .int .i64 0, .int .i64 0] := by rw [← hw8, ← hnb]; exact Blk.new _ _ _
      rw [hw8]
      try rw [hnb]
      have hnb7 : w7.heap.size ≤ nb := Nat.le_of_eq hnb
      have H8 := Lib.hid (And.intro hb78 hN8)
      clear hb78 hN8 hw8 hnb
      go_wp2_with fail
      go_loopw [64] (fun iv wr => ∃ i : Nat, iv = .int .i64 i ∧ i ≤ n7 ∧ Blk wr nb 30 #[.int .i64 (cntD 0 ((ofPD xs ys).take i)), .int .i64 (cntD 1 ((ofPD xs ys).take i)), .int .i64 (cntD 2 ((ofPD xs ys).take i)), .int .i64 (cntD 3 ((ofPD xs ys).take i)), .int .i64 (cntD 4 ((ofPD xs ys).take i)), .int .i64 (cntD 5 ((ofPD xs ys).take i))] ∧ Below w7.heap.size w7 wr) (fun iv _ => n7 - (intOf iv).toNat)
      case atStart => exact ⟨0, rfl, Nat.zero_le _, H8.out.2, H8.out.1⟩
      case round =>
        obtain ⟨i, rfl, hi, hB, hb⟩ := hrel
        by_cases hlt : i < n7
        · have hiL : i < (ofPD xs ys).length := by have := HS7.out.1.2; omega
          obtain ⟨b, off, rfl, hbb, hcs⟩ := (HS7.out.1.1.below hb (Nat.le_refl _)) (by have := HS7.out.1.2; omega)
          have c0 := hcs i hiL 0 (by omega)
          have c1' := hcs i hiL 1 (by omega)
          have c2' := hcs i hiL 2 (by omega)
          simp only [eCC, List.getElem?_cons_succ, List.getElem?_cons_zero, Nat.add_zero] at c0 c1' c2'
          clear hcs
          have hi1 : (i : Int) < n7 := by omega
          have hsx := ofPD_kinds2 xs ys _ (List.getElem_mem hiL)
          have e0 := cntD_step 0 (ofPD xs ys) i hiL
          have e1 := cntD_step 1 (ofPD xs ys) i hiL
          have e2 := cntD_step 2 (ofPD xs ys) i hiL
          have e3 := cntD_step 3 (ofPD xs ys) i hiL
          have e4 := cntD_step 4 (ofPD xs ys) i hiL
          have e5 := cntD_step 5 (ofPD xs ys) i hiL
          have b0 := cntD_le 0 ((ofPD xs ys).take i)
          have b1 := cntD_le 1 ((ofPD xs ys).take i)
          have b2 := cntD_le 2 ((ofPD xs ys).take i)
          have b3 := cntD_le 3 ((ofPD xs ys).take i)
          have b4 := cntD_le 4 ((ofPD xs ys).take i)
          have b5 := cntD_le 5 ((ofPD xs ys).take i)
          rw [List.length_take] at b0 b1 b2 b3 b4 b5
          obtain ⟨⟨s, p, fr⟩, hx⟩ : ∃ x, (ofPD xs ys)[i] = x := ⟨_, rfl⟩
          simp only [hx] at c0 c1' c2' hsx e0 e1 e2 e3 e4 e5
          clear hx
          generalize cntD 0 ((ofPD xs ys).take i) = a0 at *
          generalize cntD 1 ((ofPD xs ys).take i) = a1 at *
          generalize cntD 2 ((ofPD xs ys).take i) = a2 at *
          generalize cntD 3 ((ofPD xs ys).take i) = a3 at *
          generalize cntD 4 ((ofPD xs ys).take i) = a4 at *
          generalize cntD 5 ((ofPD xs ys).take i) = a5 at *
          have hba := (Below.refl wr.heap.size wr).alloc (Nat.le_refl _) (.cells #[.int .i64 s, .string p, .string fr] 40)
          have HR := Lib.hid (And.intro (hB.below hba hB.lt) (hb.trans (hba.mono hb.size)))
          have x0 := HR.out.1.cell 0
          have x1 := HR.out.1.cell 1
          have x2 := HR.out.1.cell 2
          have x3 := HR.out.1.cell 3
          have x4 := HR.out.1.cell 4
          have x5 := HR.out.1.cell 5
          simp at x0 x1 x2 x3 x4 x5
          have f0 := HR.out.1.frozen 0
          have f1 := HR.out.1.frozen 1
          have f2 := HR.out.1.frozen 2
          have f3 := HR.out.1.frozen 3
          have f4 := HR.out.1.frozen 4
          have f5 := HR.out.1.frozen 5
          clear hba hB hb
          rcases hsx with rfl | rfl | rfl | rfl | rfl
          · simp only [if_pos, reduceIte, Int.reduceEq, Int.add_zero] at e0 e1 e2 e3 e4 e5
            have hwr : IntKind.i64.wrap (a1 + 1) = a1 + 1 := IntWalk.i64_in _ (by omega)
            have HE := Lib.hid (And.intro e0 (And.intro e1 (And.intro e2 (And.intro e3 (And.intro e4 e5)))))
            clear e0 e1 e2 e3 e4 e5
            go_wp2_with fail
            go_roundw
            case rel =>
              refine ⟨i + 1, by go_num, by omega, ?_, HR.out.2.setCell (p := ⟨nb, 1, none⟩) hnb7 _⟩
              rw [HE.out.1, HE.out.2.1, HE.out.2.2.1, HE.out.2.2.2.1, HE.out.2.2.2.2.1, HE.out.2.2.2.2.2]
              exact HR.out.1.put 1 (.int .i64 (a1 + 1))
            case measure => simp [intOf]; omega
          · simp only [if_pos, reduceIte, Int.reduceEq, Int.add_zero] at e0 e1 e2 e3 e4 e5
            have hwr : IntKind.i64.wrap (a2 + 1) = a2 + 1 := IntWalk.i64_in _ (by omega)
            have HE := Lib.hid (And.intro e0 (And.intro e1 (And.intro e2 (And.intro e3 (And.intro e4 e5)))))
            clear e0 e1 e2 e3 e4 e5
            go_wp2_with fail
            go_roundw
            case rel =>
              refine ⟨i + 1, by go_num, by omega, ?_, HR.out.2.setCell (p := ⟨nb, 2, none⟩) hnb7 _⟩
              rw [HE.out.1, HE.out.2.1, HE.out.2.2.1, HE.out.2.2.2.1, HE.out.2.2.2.2.1, HE.out.2.2.2.2.2]
              exact HR.out.1.put 2 (.int .i64 (a2 + 1))
            case measure => simp [intOf]; omega
          · simp only [if_pos, reduceIte, Int.reduceEq, Int.add_zero] at e0 e1 e2 e3 e4 e5
            have hwr : IntKind.i64.wrap (a3 + 1) = a3 + 1 := IntWalk.i64_in _ (by omega)
            have HE := Lib.hid (And.intro e0 (And.intro e1 (And.intro e2 (And.intro e3 (And.intro e4 e5)))))
            clear e0 e1 e2 e3 e4 e5
            go_wp2_with fail
            go_roundw
            case rel =>
              refine ⟨i + 1, by go_num, by omega, ?_, HR.out.2.setCell (p := ⟨nb, 3, none⟩) hnb7 _⟩
              rw [HE.out.1, HE.out.2.1, HE.out.2.2.1, HE.out.2.2.2.1, HE.out.2.2.2.2.1, HE.out.2.2.2.2.2]
              exact HR.out.1.put 3 (.int .i64 (a3 + 1))
            case measure => simp [intOf]; omega
          · simp only [if_pos, reduceIte, Int.reduceEq, Int.add_zero] at e0 e1 e2 e3 e4 e5
            have hwr : IntKind.i64.wrap (a4 + 1) = a4 + 1 := IntWalk.i64_in _ (by omega)
            have HE := Lib.hid (And.intro e0 (And.intro e1 (And.intro e2 (And.intro e3 (And.intro e4 e5)))))
            clear e0 e1 e2 e3 e4 e5
            go_wp2_with fail
            go_roundw
            case rel =>
              refine ⟨i + 1, by go_num, by omega, ?_, HR.out.2.setCell (p := ⟨nb, 4, none⟩) hnb7 _⟩
              rw [HE.out.1, HE.out.2.1, HE.out.2.2.1, HE.out.2.2.2.1, HE.out.2.2.2.2.1, HE.out.2.2.2.2.2]
              exact HR.out.1.put 4 (.int .i64 (a4 + 1))
            case measure => simp [intOf]; omega
          · simp only [if_pos, reduceIte, Int.reduceEq, Int.add_zero] at e0 e1 e2 e3 e4 e5
            have hwr : IntKind.i64.wrap (a5 + 1) = a5 + 1 := IntWalk.i64_in _ (by omega)
            have HE := Lib.hid (And.intro e0 (And.intro e1 (And.intro e2 (And.intro e3 (And.intro e4 e5)))))
            clear e0 e1 e2 e3 e4 e5
            go_wp2_with fail
            go_roundw
            case rel =>
              refine ⟨i + 1, by go_num, by omega, ?_, HR.out.2.setCell (p := ⟨nb, 5, none⟩) hnb7 _⟩
              rw [HE.out.1, HE.out.2.1, HE.out.2.2.1, HE.out.2.2.2.1, HE.out.2.2.2.2.1, HE.out.2.2.2.2.2]
              exact HR.out.1.put 5 (.int .i64 (a5 + 1))
            case measure => simp [intOf]; omega
        · obtain rfl : i = n7 := by omega
          have hf : (ofPD xs ys).take i = ofPD xs ys := List.take_of_length_le (by have := HS7.out.1.2; omega)
          rw [hf] at hB
          obtain ⟨a0, hz0⟩ : ∃ z, cntD 0 (ofPD xs ys) = z := ⟨_, rfl⟩
          obtain ⟨a1, hz1⟩ : ∃ z, cntD 1 (ofPD xs ys) = z := ⟨_, rfl⟩
          obtain ⟨a2, hz2⟩ : ∃ z, cntD 2 (ofPD xs ys) = z := ⟨_, rfl⟩
          obtain ⟨a3, hz3⟩ : ∃ z, cntD 3 (ofPD xs ys) = z := ⟨_, rfl⟩
          obtain ⟨a4, hz4⟩ : ∃ z, cntD 4 (ofPD xs ys) = z := ⟨_, rfl⟩
          obtain ⟨a5, hz5⟩ : ∃ z, cntD 5 (ofPD xs ys) = z := ⟨_, rfl⟩
          rw [hz0, hz1, hz2, hz3, hz4, hz5] at hB
          have hcn := fun W9 (h : SlV W9 3 eCC (.slice A7 i c7) (ofPD xs ys)) => (by
            have := diffCount_any W9 (.slice A7 i c7) (ofPD xs ys) h (by have := HLN.out.1; omega) (ofPD_kinds2 xs ys)
            rw [hz0, hz1, hz2, hz3, hz4, hz5] at this
            exact this : Calls Tryz.prog 9 #[.slice A7 i c7] W9 fun e w' => e = .returned (.agg #[.int .i64 a0, .int .i64 a1, .int .i64 a2, .int .i64 a3, .int .i64 a4, .int .i64 a5]) ∧ Below W9.heap.size W9 w')
          have HCN := Lib.hid hcn
          have HZ9 := Lib.hid (HZ7.out.below hb)
          have HSE9 := Lib.hid (HS7.out.2.below hb (Nat.le_refl _))
          have HSO9 := Lib.hid (HSL7.out.below hb (Nat.le_refl _))
          have HB9 := Lib.hid hB
          clear hf hB hb hcn hz0 hz1 hz2 hz3 hz4 hz5 HZ7 HS7 HSL7 H8
          go_upto_region 23 with fail
          have k0 : ∀ m : Held (Aft wr), (HeldW m).cell? ⟨gO, 0, none⟩ = some (.slice A3 ng c3) := fun m => (Aft.cell m HZ9.out.box.lt).trans (HZ9.out.box.cell 0)
          have k1 : ∀ m : Held (Aft wr), (HeldW m).cell? ⟨w.heap.size + 1, 0, none⟩ = some (.int .u64 mo) := fun m => (Aft.cell m HZ9.out.mos.lt).trans (HZ9.out.mos.cell 0)
          have k2 : ∀ m : Held (Aft wr), (HeldW m).cell? ⟨w.heap.size, 0, none⟩ = some (.slice A1 n1 c1) := fun m => (Aft.cell m HZ9.out.two.lt).trans (HZ9.out.two.cell 0)
          have k3 : ∀ m : Held (Aft wr), (HeldW m).cell? ⟨w.heap.size, 1, none⟩ = some (.slice A2 n2 c2) := fun m => (Aft.cell m HZ9.out.two.lt).trans (HZ9.out.two.cell 1)
          have r0 : ∀ m : Held (Aft wr), (HeldW m).cell? ⟨nb, 0, none⟩ = some (.int .i64 a0) := fun m => (Aft.cell m HB9.out.lt).trans (HB9.out.cell 0)
          have r1 : ∀ m : Held (Aft wr), (HeldW m).cell? ⟨nb, 1, none⟩ = some (.int .i64 a1) := fun m => (Aft.cell m HB9.out.lt).trans (HB9.out.cell 1)
          have r2 : ∀ m : Held (Aft wr), (HeldW m).cell? ⟨nb, 2, none⟩ = some (.int .i64 a2) := fun m => (Aft.cell m HB9.out.lt).trans (HB9.out.cell 2)
          have r3 : ∀ m : Held (Aft wr), (HeldW m).cell? ⟨nb, 3, none⟩ = some (.int .i64 a3) := fun m => (Aft.cell m HB9.out.lt).trans (HB9.out.cell 3)
          have r4 : ∀ m : Held (Aft wr), (HeldW m).cell? ⟨nb, 4, none⟩ = some (.int .i64 a4) := fun m => (Aft.cell m HB9.out.lt).trans (HB9.out.cell 4)
          have r5 : ∀ m : Held (Aft wr), (HeldW m).cell? ⟨nb, 5, none⟩ = some (.int .i64 a5) := fun m => (Aft.cell m HB9.out.lt).trans (HB9.out.cell 5)
          have hEQ := fun W : World => eq_six a0 a1 a2 a3 a4 a5 W
          have HC0 := Lib.hid (Aft.start wr)
          refine wp_region_mix (Aft wr) [(0, true), (1, true), (2, true), (3, true), (4, true), (5, true), (6, true), (7, true), (8, true), (9, false), (10, true), (11, true), (12, true), (15, true), (16, true), (17, true), (18, true), (13, false), (14, false), (19, false), (20, false), (21, true), (22, true), (23, true), (25, true), (26, true), (27, true), (28, true), (24, false), (29, false), (30, false), (31, true), (32, true), (33, true), (35, true), (34, false), (36, true), (37, true), (38, true), (39, false), (40, true), (41, true)] (by kernel_rfl) (by kernel_rfl) ?_
          simp only [pickP, List.filterMap_cons, List.filterMap_nil, List.getElem?_toArray, List.getElem?_cons_succ, List.getElem?_cons_zero, Option.map_some]
          repeat (apply mix_first; apply Exists.intro; refine ⟨fun m => ?_, HC0.out, ?_⟩; · (go_big_quiet_step (fail); exact wpQuiet_nil rfl))
          have hda : Below wr.heap.size wr wr.drew := (Below.refl _ wr).drew
          have HS0 := Lib.hid (same41_any wr.drew (.slice A3 ng c3) (.slice A6 q c6) ((eachO xs ys).take q) ((HZ9.out.below hda).own.slv) (slv_cutD (HSE9.out.below hda (Nat.le_refl _)) q (by omega)))
          clear hda
          refine mix_forced HC0.out ?_
          go_wp2_with fail
          refine HS0.out.mono ?_
          rintro e w10 ⟨rfl, m10, hw10⟩
          have hb10 : Below wr.heap.size wr w10 := by rw [hw10]; exact below_drewN HC0.out m10
          have HC10 := Lib.hid (show Aft wr w10 from hb10)
          have HZ10 := Lib.hid (HZ9.out.below hb10)
          clear hb10 hw10 HS0 HC0
          go_wp2_with fail
          show mixC _ _ _ _ _ _ _
          repeat (apply mix_first; apply Exists.intro; refine ⟨fun m => ?_, HC10.out, ?_⟩; · (go_big_quiet_step (fail); exact wpQuiet_nil rfl))
          refine mix_forced HC10.out ?_
          go_wp2_with fail
          refine (HDM.out w10 bt bm bt2 bm2 HZ10.out.t HZ10.out.t2).mono ?_
          rintro e w11 ⟨u11, rfl, ho11, hb11⟩
          have HC11 := Lib.hid (Aft.keep _ _ HC10.out hb11)
          have HZ11 := Lib.hid (HZ10.out.below hb11)
          have HBK := Lib.hid (back41_any w11 u11 (mvO (movesP xs ys)) (SlV.of_own ho11 eCC_len (by decide)) (by have := HLN.out.2.2; omega))
          clear ho11 hb11 HC10 HZ10
          go_wp2_with fail
          show mixC _ _ _ _ _ _ _
          refine mix_forced HC11.out ?_
          go_wp2_with fail
          refine HBK.out.mono ?_
          rintro e w12 ⟨u12, rfl, ho12, hb12⟩
          have HC12 := Lib.hid (Aft.keep _ _ HC11.out hb12)
          have HZ12 := Lib.hid (HZ11.out.below hb12)
          have HO12 := Lib.hid ho12
          clear ho12 hb12 HC11 HZ11 HBK
          go_wp2_with fail
          show mixC _ _ _ _ _ _ _
          refine mix_forced HC12.out ?_
          go_wp2_with fail
          refine (HRM.out w12 HZ12.out.low).mono ?_
          rintro e w13 ⟨u13, rfl, ho13, hb13⟩
          have HC13 := Lib.hid (Aft.keep _ _ HC12.out hb13)
          have HZ13 := Lib.hid (HZ12.out.below hb13)
          have HS13 := Lib.hid (same41_any w13 u12 u13 (mvO (movesP xs ys)) (HO12.out.slv.below hb13 (Nat.le_refl _)) ho13.slv)
          clear ho13 hb13 HC12 HZ12 HO12
          go_wp2_with fail
          show mixC _ _ _ _ _ _ _
          refine mix_forced HC13.out ?_
          go_wp2_with fail
          refine HS13.out.mono ?_
          rintro e w14 ⟨rfl, m14, hw14⟩
          have hb14 : Below w13.heap.size w13 w14 := by rw [hw14]; exact below_drewN (Below.refl _ w13) m14
          have HC14 := Lib.hid (Aft.keep _ _ HC13.out hb14)
          have HZ14 := Lib.hid (HZ13.out.below hb14)
          clear hb14 hw14 HS13 HC13 HZ13
          have HBL := Lib.hid (back41_any w14 (.slice A7 i c7) (ofPD xs ys) (HSO9.out.below HC14.out (Nat.le_refl _)) (by have := HLN.out.1; omega))
          go_wp2_with fail
          show mixC _ _ _ _ _ _ _
          repeat (apply mix_first; apply Exists.intro; refine ⟨fun m => ?_, HC14.out, ?_⟩; · (go_big_quiet_step (fail); exact wpQuiet_nil rfl))
          refine mix_forced HC14.out ?_
          go_wp2_with fail
          refine HBL.out.mono ?_
          rintro e w15 ⟨u15, rfl, ho15, hb15⟩
          have HC15 := Lib.hid (Aft.keep _ _ HC14.out hb15)
          have HZ15 := Lib.hid (HZ14.out.below hb15)
          have HO15 := Lib.hid ho15
          clear ho15 hb15 HC14 HZ14 HBL
          go_wp2_with fail
          show mixC _ _ _ _ _ _ _
          refine mix_forced HC15.out ?_
          go_wp2_with fail
          refine (HRO.out w15 HZ15.out.low).mono ?_
          rintro e w16 ⟨u16, rfl, ho16, hb16⟩
          have HC16 := Lib.hid (Aft.keep _ _ HC15.out hb16)
          have HZ16 := Lib.hid (HZ15.out.below hb16)
          have HS16 := Lib.hid (same41_any w16 u15 u16 (ofPD xs ys) (HO15.out.slv.below hb16 (Nat.le_refl _)) ho16.slv)
          clear ho16 hb16 HC15 HZ15 HO15
          go_wp2_with fail
          show mixC _ _ _ _ _ _ _
          refine mix_forced HC16.out ?_
          go_wp2_with fail
          refine HS16.out.mono ?_
          rintro e w17 ⟨rfl, m17, hw17⟩
          have hb17 : Below w16.heap.size w16 w17 := by rw [hw17]; exact below_drewN (Below.refl _ w16) m17
          have HC17 := Lib.hid (Aft.keep _ _ HC16.out hb17)
          have HZ17 := Lib.hid (HZ16.out.below hb17)
          clear hb17 hw17 HS16 HC16 HZ16
          have HCT := Lib.hid (HCN.out w17 (HSO9.out.below HC17.out (Nat.le_refl _)))
          go_wp2_with fail
          show mixC _ _ _ _ _ _ _
          repeat (apply mix_first; apply Exists.intro; refine ⟨fun m => ?_, HC17.out, ?_⟩; · (go_big_quiet_step (fail); exact wpQuiet_nil rfl))
          refine mix_forced HC17.out ?_
          go_wp2_with fail
          refine HCT.out.mono ?_
          rintro e w18 ⟨rfl, hb18⟩
          have HC18 := Lib.hid (Aft.keep _ _ HC17.out hb18)
          have HZ18 := Lib.hid (HZ17.out.below hb18)
          clear hb18 HCT HC17 HZ17
          go_wp2_with fail
          show mixC _ _ _ _ _ _ _
          repeat (apply mix_first; apply Exists.intro; refine ⟨fun m => ?_, HC18.out, ?_⟩; · (go_big_quiet_step (fail); exact wpQuiet_nil rfl))
          refine mix_forced HC18.out ?_
          go_wp2_with fail
          refine (diff_lives w18).mono ?_
          rintro e w19 ⟨rfl, hb19⟩
          have HC19 := Lib.hid (Aft.keep _ _ HC18.out hb19)
          have HZ19 := Lib.hid (HZ18.out.below hb19)
          clear hb19 HC18 HZ18
          go_wp2_with fail
          show mixC _ _ _ _ _ _ _
          repeat (apply mix_first; apply Exists.intro; refine ⟨fun m => ?_, HC19.out, ?_⟩; · (go_big_quiet_step (fail); exact wpQuiet_nil rfl))
          refine mix_nil HC19.out ?_
          go_wp2_with fail
          refine ⟨by simp, .inl ⟨_, _, rfl, run_takeDeferred HZ19.out.dfr, ?_⟩⟩
          refine ⟨_, results_tmp rfl _ _ _, rfl, ?_⟩
          exact HZ19.out.low.trans (belowK_b (w := w) (Nat.le_refl _) _ (gO + 1) _ _ hD' HZ19.out.dfr rfl rfl)
    case stop =>
      rintro D c pre V hD hSp ⟨rfl, zs, x, rfl, hlen, hI⟩ hK
      have hgs : zs.map eO = (eachO xs ys).take M := by
        obtain ⟨r, hr⟩ := hSp
        show zs.map eO = ((eachP xs ys).map eO).take M
        rw [← hr, List.append_assoc, List.map_append, ← hlen]
        exact (List.take_left' (List.length_map _)).symm
      have hfin := hI
      obtain ⟨o, hrc, ho⟩ := hI.out
      rw [hgs] at ho
      have hDg : D = gO + 1 := hD.trans H5.out.2.2
      subst hDg
      clear hD
      obtain ⟨q, hq, hmin⟩ : ∃ q : Nat, q ≤ (eachO xs ys).length ∧ min ((eachO xs ys).length : Int) M = q := ⟨min (eachO xs ys).length M, by omega, by omega⟩
      have htk : (eachO xs ys).take M = (eachO xs ys).take q := by
        rcases Nat.le_total (eachO xs ys).length M with h | h
        · rw [List.take_of_length_le h, List.take_of_length_le (by omega)]
        · rw [show q = M by omega]
      rw [htk] at ho
      obtain ⟨A3, c3, rfl, _, _, _⟩ := SlV_of_any ho
      obtain ⟨ng, hng⟩ : ∃ ng, ((eachO xs ys).take q).length = ng := ⟨_, rfl⟩
      have hD' : w.heap.size ≤ gO + 1 := by have := H5.out.2.1; omega
      have ho' := own_wide ho H5.out.2.1
      rw [hng] at ho' hrc
      have HZ := Lib.hid (show DfZ gO w.heap.size (w.heap.size + 1) bt bm bt2 bm2 (gO + 1) (.slice A1 n1 c1) (.slice A2 n2 c2) (.int .u64 mo) (.slice A3 ng c3) ((eachO xs ys).take q) xs ys w V from ⟨hrc, by unfold OwnK41; rw [hng]; exact ho', hI.two, hI.mos, hI.t, hI.t2, hK, hI.low⟩)
      have HQ := Lib.hid (And.intro hq hng)
      have z0 := HZ.out.two.cell 0
      have z1 := HZ.out.two.cell 1
      simp only [List.getElem?_toArray, List.getElem?_cons_succ, List.getElem?_cons_zero] at z0 z1
      clear ho ho' hrc hfin hI hK htk hgs hq hng
      gi_wp2
      go_wp2_with fail
      refine (HRE.out V HZ.out.low).mono ?_
      rintro e w6 ⟨u6, rfl, ho6, hb6⟩
      have HZ6 := Lib.hid (HZ.out.below hb6)
      have hsl6 : SlV w6 3 eCC u6 (eachO xs ys) := ho6.slv
      obtain ⟨A6, c6, rfl, hc6, _, _⟩ := SlV_of_any ho6
      obtain ⟨n6, hn6⟩ : ∃ n, (eachO xs ys).length = n := ⟨_, rfl⟩
      rw [hn6] at hsl6 hmin ⊢
      have HS6 := Lib.hid (And.intro hsl6 hn6)
      have hc6' : (n6 : Int) ≤ c6 := by rw [hn6] at hc6; omega
      have hqn : (q : Int) ≤ n6 := by have := HQ.out.1; omega
      clear hb6 ho6 hsl6 hn6 HZ z0 z1 hc6
      go_wp2_with fail
      refine (HDO.out w6 bt bm bt2 bm2 HZ6.out.t HZ6.out.t2).mono ?_
      rintro e w7 ⟨u7, rfl, ho7, hb7⟩
      have HZ7 := Lib.hid (HZ6.out.below hb7)
      have hsl7 : SlV w7 3 eCC u7 (ofPD xs ys) := SlV.of_own ho7 eCC_len (by decide)
      have hbk7 := (hb7.mono (Nat.le_refl _) : Below w6.heap.size w6 w7)
      obtain ⟨A7, c7, rfl, hc7, hc72, hso7⟩ := hsl7
      obtain ⟨n7, hn7⟩ : ∃ n, (ofPD xs ys).length = n := ⟨_, rfl⟩
      rw [hn7] at hc7 ⊢
      have hsl67 := HS6.out.1.below hb7 (Nat.le_refl _)
      have HS7 := Lib.hid (And.intro (And.intro hso7 hn7) hsl67)
      have hsl7' : SlV w7 3 eCC (.slice A7 n7 c7) (ofPD xs ys) := ⟨A7, c7, by rw [hn7], by rw [hn7]; exact hc7, hc72, hso7⟩
      have HSL7 := Lib.hid hsl7'
      unfold maxLen at hc72
      have hn760 : n7 ≤ 60 := by rw [← hn7]; exact HLN.out.1
      clear hb7 ho7 hso7 hn7 HZ6 HS6 hsl67 hsl7' hbk7
      go_upto_region 16 with fail
      obtain ⟨nb, hnb⟩ : ∃ n, w7.heap.size = n := ⟨_, rfl⟩
      obtain ⟨w8, hw8⟩ : ∃ W, w7.alloc (.cells #[.int .i64 0, .int .i64 0, .int .i64 0, .int .i64 0, .int .i64 0, .int .i64 0] 30) = W := ⟨_, rfl⟩
      have hb78 : Below w7.heap.size w7 w8 := by rw [← hw8]; exact (Below.refl _ w7).alloc (Nat.le_refl _) _
      have hN8 : Blk w8 nb 30 #[.int .i64 0, .int .i64 0, .int .i64 0, .int .i64 0, .int .i64 0, .int .i64 0] := by rw [← hw8, ← hnb]; exact Blk.new _ _ _
      rw [hw8]
      try rw [hnb]
      have hnb7 : w7.heap.size ≤ nb := Nat.le_of_eq hnb
      have H8 := Lib.hid (And.intro hb78 hN8)
      clear hb78 hN8 hw8 hnb
      go_wp2_with fail
      go_loopw [64] (fun iv wr => ∃ i : Nat, iv = .int .i64 i ∧ i ≤ n7 ∧ Blk wr nb 30 #[.int .i64 (cntD 0 ((ofPD xs ys).take i)), .int .i64 (cntD 1 ((ofPD xs ys).take i)), .int .i64 (cntD 2 ((ofPD xs ys).take i)), .int .i64 (cntD 3 ((ofPD xs ys).take i)), .int .i64 (cntD 4 ((ofPD xs ys).take i)), .int .i64 (cntD 5 ((ofPD xs ys).take i))] ∧ Below w7.heap.size w7 wr) (fun iv _ => n7 - (intOf iv).toNat)
      case atStart => exact ⟨0, rfl, Nat.zero_le _, H8.out.2, H8.out.1⟩
      case round =>
        obtain ⟨i, rfl, hi, hB, hb⟩ := hrel
        by_cases hlt : i < n7
        · have hiL : i < (ofPD xs ys).length := by have := HS7.out.1.2; omega
          obtain ⟨b, off, rfl, hbb, hcs⟩ := (HS7.out.1.1.below hb (Nat.le_refl _)) (by have := HS7.out.1.2; omega)
          have c0 := hcs i hiL 0 (by omega)
          have c1' := hcs i hiL 1 (by omega)
          have c2' := hcs i hiL 2 (by omega)
          simp only [eCC, List.getElem?_cons_succ, List.getElem?_cons_zero, Nat.add_zero] at c0 c1' c2'
          clear hcs
          have hi1 : (i : Int) < n7 := by omega
          have hsx := ofPD_kinds2 xs ys _ (List.getElem_mem hiL)
          have e0 := cntD_step 0 (ofPD xs ys) i hiL
          have e1 := cntD_step 1 (ofPD xs ys) i hiL
          have e2 := cntD_step 2 (ofPD xs ys) i hiL
          have e3 := cntD_step 3 (ofPD xs ys) i hiL
          have e4 := cntD_step 4 (ofPD xs ys) i hiL
          have e5 := cntD_step 5 (ofPD xs ys) i hiL
          have b0 := cntD_le 0 ((ofPD xs ys).take i)
          have b1 := cntD_le 1 ((ofPD xs ys).take i)
          have b2 := cntD_le 2 ((ofPD xs ys).take i)
          have b3 := cntD_le 3 ((ofPD xs ys).take i)
          have b4 := cntD_le 4 ((ofPD xs ys).take i)
          have b5 := cntD_le 5 ((ofPD xs ys).take i)
          rw [List.length_take] at b0 b1 b2 b3 b4 b5
          obtain ⟨⟨s, p, fr⟩, hx⟩ : ∃ x, (ofPD xs ys)[i] = x := ⟨_, rfl⟩
          simp only [hx] at c0 c1' c2' hsx e0 e1 e2 e3 e4 e5
          clear hx
          generalize cntD 0 ((ofPD xs ys).take i) = a0 at *
          generalize cntD 1 ((ofPD xs ys).take i) = a1 at *
          generalize cntD 2 ((ofPD xs ys).take i) = a2 at *
          generalize cntD 3 ((ofPD xs ys).take i) = a3 at *
          generalize cntD 4 ((ofPD xs ys).take i) = a4 at *
          generalize cntD 5 ((ofPD xs ys).take i) = a5 at *
          have hba := (Below.refl wr.heap.size wr).alloc (Nat.le_refl _) (.cells #[.int .i64 s, .string p, .string fr] 40)
          have HR := Lib.hid (And.intro (hB.below hba hB.lt) (hb.trans (hba.mono hb.size)))
          have x0 := HR.out.1.cell 0
          have x1 := HR.out.1.cell 1
          have x2 := HR.out.1.cell 2
          have x3 := HR.out.1.cell 3
          have x4 := HR.out.1.cell 4
          have x5 := HR.out.1.cell 5
          simp at x0 x1 x2 x3 x4 x5
          have f0 := HR.out.1.frozen 0
          have f1 := HR.out.1.frozen 1
          have f2 := HR.out.1.frozen 2
          have f3 := HR.out.1.frozen 3
          have f4 := HR.out.1.frozen 4
          have f5 := HR.out.1.frozen 5
          clear hba hB hb
          rcases hsx with rfl | rfl | rfl | rfl | rfl
          · simp only [if_pos, reduceIte, Int.reduceEq, Int.add_zero] at e0 e1 e2 e3 e4 e5
            have hwr : IntKind.i64.wrap (a1 + 1) = a1 + 1 := IntWalk.i64_in _ (by omega)
            have HE := Lib.hid (And.intro e0 (And.intro e1 (And.intro e2 (And.intro e3 (And.intro e4 e5)))))
            clear e0 e1 e2 e3 e4 e5
            go_wp2_with fail
            go_roundw
            case rel =>
              refine ⟨i + 1, by go_num, by omega, ?_, HR.out.2.setCell (p := ⟨nb, 1, none⟩) hnb7 _⟩
              rw [HE.out.1, HE.out.2.1, HE.out.2.2.1, HE.out.2.2.2.1, HE.out.2.2.2.2.1, HE.out.2.2.2.2.2]
              exact HR.out.1.put 1 (.int .i64 (a1 + 1))
            case measure => simp [intOf]; omega
          · simp only [if_pos, reduceIte, Int.reduceEq, Int.add_zero] at e0 e1 e2 e3 e4 e5
            have hwr : IntKind.i64.wrap (a2 + 1) = a2 + 1 := IntWalk.i64_in _ (by omega)
            have HE := Lib.hid (And.intro e0 (And.intro e1 (And.intro e2 (And.intro e3 (And.intro e4 e5)))))
            clear e0 e1 e2 e3 e4 e5
            go_wp2_with fail
            go_roundw
            case rel =>
              refine ⟨i + 1, by go_num, by omega, ?_, HR.out.2.setCell (p := ⟨nb, 2, none⟩) hnb7 _⟩
              rw [HE.out.1, HE.out.2.1, HE.out.2.2.1, HE.out.2.2.2.1, HE.out.2.2.2.2.1, HE.out.2.2.2.2.2]
              exact HR.out.1.put 2 (.int .i64 (a2 + 1))
            case measure => simp [intOf]; omega
          · simp only [if_pos, reduceIte, Int.reduceEq, Int.add_zero] at e0 e1 e2 e3 e4 e5
            have hwr : IntKind.i64.wrap (a3 + 1) = a3 + 1 := IntWalk.i64_in _ (by omega)
            have HE := Lib.hid (And.intro e0 (And.intro e1 (And.intro e2 (And.intro e3 (And.intro e4 e5)))))
            clear e0 e1 e2 e3 e4 e5
            go_wp2_with fail
            go_roundw
            case rel =>
              refine ⟨i + 1, by go_num, by omega, ?_, HR.out.2.setCell (p := ⟨nb, 3, none⟩) hnb7 _⟩
              rw [HE.out.1, HE.out.2.1, HE.out.2.2.1, HE.out.2.2.2.1, HE.out.2.2.2.2.1, HE.out.2.2.2.2.2]
              exact HR.out.1.put 3 (.int .i64 (a3 + 1))
            case measure => simp [intOf]; omega
          · simp only [if_pos, reduceIte, Int.reduceEq, Int.add_zero] at e0 e1 e2 e3 e4 e5
            have hwr : IntKind.i64.wrap (a4 + 1) = a4 + 1 := IntWalk.i64_in _ (by omega)
            have HE := Lib.hid (And.intro e0 (And.intro e1 (And.intro e2 (And.intro e3 (And.intro e4 e5)))))
            clear e0 e1 e2 e3 e4 e5
            go_wp2_with fail
            go_roundw
            case rel =>
              refine ⟨i + 1, by go_num, by omega, ?_, HR.out.2.setCell (p := ⟨nb, 4, none⟩) hnb7 _⟩
              rw [HE.out.1, HE.out.2.1, HE.out.2.2.1, HE.out.2.2.2.1, HE.out.2.2.2.2.1, HE.out.2.2.2.2.2]
              exact HR.out.1.put 4 (.int .i64 (a4 + 1))
            case measure => simp [intOf]; omega
          · simp only [if_pos, reduceIte, Int.reduceEq, Int.add_zero] at e0 e1 e2 e3 e4 e5
            have hwr : IntKind.i64.wrap (a5 + 1) = a5 + 1 := IntWalk.i64_in _ (by omega)
            have HE := Lib.hid (And.intro e0 (And.intro e1 (And.intro e2 (And.intro e3 (And.intro e4 e5)))))
            clear e0 e1 e2 e3 e4 e5
            go_wp2_with fail
            go_roundw
            case rel =>
              refine ⟨i + 1, by go_num, by omega, ?_, HR.out.2.setCell (p := ⟨nb, 5, none⟩) hnb7 _⟩
              rw [HE.out.1, HE.out.2.1, HE.out.2.2.1, HE.out.2.2.2.1, HE.out.2.2.2.2.1, HE.out.2.2.2.2.2]
              exact HR.out.1.put 5 (.int .i64 (a5 + 1))
            case measure => simp [intOf]; omega
        · obtain rfl : i = n7 := by omega
          have hf : (ofPD xs ys).take i = ofPD xs ys := List.take_of_length_le (by have := HS7.out.1.2; omega)
          rw [hf] at hB
          obtain ⟨a0, hz0⟩ : ∃ z, cntD 0 (ofPD xs ys) = z := ⟨_, rfl⟩
          obtain ⟨a1, hz1⟩ : ∃ z, cntD 1 (ofPD xs ys) = z := ⟨_, rfl⟩
          obtain ⟨a2, hz2⟩ : ∃ z, cntD 2 (ofPD xs ys) = z := ⟨_, rfl⟩
          obtain ⟨a3, hz3⟩ : ∃ z, cntD 3 (ofPD xs ys) = z := ⟨_, rfl⟩
          obtain ⟨a4, hz4⟩ : ∃ z, cntD 4 (ofPD xs ys) = z := ⟨_, rfl⟩
          obtain ⟨a5, hz5⟩ : ∃ z, cntD 5 (ofPD xs ys) = z := ⟨_, rfl⟩
          rw [hz0, hz1, hz2, hz3, hz4, hz5] at hB
          have hcn := fun W9 (h : SlV W9 3 eCC (.slice A7 i c7) (ofPD xs ys)) => (by
            have := diffCount_any W9 (.slice A7 i c7) (ofPD xs ys) h (by have := HLN.out.1; omega) (ofPD_kinds2 xs ys)
            rw [hz0, hz1, hz2, hz3, hz4, hz5] at this
            exact this : Calls Tryz.prog 9 #[.slice A7 i c7] W9 fun e w' => e = .returned (.agg #[.int .i64 a0, .int .i64 a1, .int .i64 a2, .int .i64 a3, .int .i64 a4, .int .i64 a5]) ∧ Below W9.heap.size W9 w')
          have HCN := Lib.hid hcn
          have HZ9 := Lib.hid (HZ7.out.below hb)
          have HSE9 := Lib.hid (HS7.out.2.below hb (Nat.le_refl _))
          have HSO9 := Lib.hid (HSL7.out.below hb (Nat.le_refl _))
          have HB9 := Lib.hid hB
          clear hf hB hb hcn hz0 hz1 hz2 hz3 hz4 hz5 HZ7 HS7 HSL7 H8
          go_upto_region 23 with fail
          have k0 : ∀ m : Held (Aft wr), (HeldW m).cell? ⟨gO, 0, none⟩ = some (.slice A3 ng c3) := fun m => (Aft.cell m HZ9.out.box.lt).trans (HZ9.out.box.cell 0)
          have k1 : ∀ m : Held (Aft wr), (HeldW m).cell? ⟨w.heap.size + 1, 0, none⟩ = some (.int .u64 mo) := fun m => (Aft.cell m HZ9.out.mos.lt).trans (HZ9.out.mos.cell 0)
          have k2 : ∀ m : Held (Aft wr), (HeldW m).cell? ⟨w.heap.size, 0, none⟩ = some (.slice A1 n1 c1) := fun m => (Aft.cell m HZ9.out.two.lt).trans (HZ9.out.two.cell 0)
          have k3 : ∀ m : Held (Aft wr), (HeldW m).cell? ⟨w.heap.size, 1, none⟩ = some (.slice A2 n2 c2) := fun m => (Aft.cell m HZ9.out.two.lt).trans (HZ9.out.two.cell 1)
          have r0 : ∀ m : Held (Aft wr), (HeldW m).cell? ⟨nb, 0, none⟩ = some (.int .i64 a0) := fun m => (Aft.cell m HB9.out.lt).trans (HB9.out.cell 0)
          have r1 : ∀ m : Held (Aft wr), (HeldW m).cell? ⟨nb, 1, none⟩ = some (.int .i64 a1) := fun m => (Aft.cell m HB9.out.lt).trans (HB9.out.cell 1)
          have r2 : ∀ m : Held (Aft wr), (HeldW m).cell? ⟨nb, 2, none⟩ = some (.int .i64 a2) := fun m => (Aft.cell m HB9.out.lt).trans (HB9.out.cell 2)
          have r3 : ∀ m : Held (Aft wr), (HeldW m).cell? ⟨nb, 3, none⟩ = some (.int .i64 a3) := fun m => (Aft.cell m HB9.out.lt).trans (HB9.out.cell 3)
          have r4 : ∀ m : Held (Aft wr), (HeldW m).cell? ⟨nb, 4, none⟩ = some (.int .i64 a4) := fun m => (Aft.cell m HB9.out.lt).trans (HB9.out.cell 4)
          have r5 : ∀ m : Held (Aft wr), (HeldW m).cell? ⟨nb, 5, none⟩ = some (.int .i64 a5) := fun m => (Aft.cell m HB9.out.lt).trans (HB9.out.cell 5)
          have hEQ := fun W : World => eq_six a0 a1 a2 a3 a4 a5 W
          have HC0 := Lib.hid (Aft.start wr)
          refine wp_region_mix (Aft wr) [(0, true), (1, true), (2, true), (3, true), (4, true), (5, true), (6, true), (7, true), (8, true), (9, false), (10, true), (11, true), (12, true), (15, true), (16, true), (17, true), (18, true), (13, false), (14, false), (19, false), (20, false), (21, true), (22, true), (23, true), (25, true), (26, true), (27, true), (28, true), (24, false), (29, false), (30, false), (31, true), (32, true), (33, true), (35, true), (34, false), (36, true), (37, true), (38, true), (39, false), (40, true), (41, true)] (by kernel_rfl) (by kernel_rfl) ?_
          simp only [pickP, List.filterMap_cons, List.filterMap_nil, List.getElem?_toArray, List.getElem?_cons_succ, List.getElem?_cons_zero, Option.map_some]
          repeat (apply mix_first; apply Exists.intro; refine ⟨fun m => ?_, HC0.out, ?_⟩; · (go_big_quiet_step (fail); exact wpQuiet_nil rfl))
          have hda : Below wr.heap.size wr wr.drew := (Below.refl _ wr).drew
          have HS0 := Lib.hid (same41_any wr.drew (.slice A3 ng c3) (.slice A6 q c6) ((eachO xs ys).take q) ((HZ9.out.below hda).own.slv) (slv_cutD (HSE9.out.below hda (Nat.le_refl _)) q (by omega)))
          clear hda
          refine mix_forced HC0.out ?_
          go_wp2_with fail
          refine HS0.out.mono ?_
          rintro e w10 ⟨rfl, m10, hw10⟩
          have hb10 : Below wr.heap.size wr w10 := by rw [hw10]; exact below_drewN HC0.out m10
          have HC10 := Lib.hid (show Aft wr w10 from hb10)
          have HZ10 := Lib.hid (HZ9.out.below hb10)
          clear hb10 hw10 HS0 HC0
          go_wp2_with fail
          show mixC _ _ _ _ _ _ _
          repeat (apply mix_first; apply Exists.intro; refine ⟨fun m => ?_, HC10.out, ?_⟩; · (go_big_quiet_step (fail); exact wpQuiet_nil rfl))
          refine mix_forced HC10.out ?_
          go_wp2_with fail
          refine (HDM.out w10 bt bm bt2 bm2 HZ10.out.t HZ10.out.t2).mono ?_
          rintro e w11 ⟨u11, rfl, ho11, hb11⟩
          have HC11 := Lib.hid (Aft.keep _ _ HC10.out hb11)
          have HZ11 := Lib.hid (HZ10.out.below hb11)
          have HBK := Lib.hid (back41_any w11 u11 (mvO (movesP xs ys)) (SlV.of_own ho11 eCC_len (by decide)) (by have := HLN.out.2.2; omega))
          clear ho11 hb11 HC10 HZ10
          go_wp2_with fail
          show mixC _ _ _ _ _ _ _
          refine mix_forced HC11.out ?_
          go_wp2_with fail
          refine HBK.out.mono ?_
          rintro e w12 ⟨u12, rfl, ho12, hb12⟩
          have HC12 := Lib.hid (Aft.keep _ _ HC11.out hb12)
          have HZ12 := Lib.hid (HZ11.out.below hb12)
          have HO12 := Lib.hid ho12
          clear ho12 hb12 HC11 HZ11 HBK
          go_wp2_with fail
          show mixC _ _ _ _ _ _ _
          refine mix_forced HC12.out ?_
          go_wp2_with fail
          refine (HRM.out w12 HZ12.out.low).mono ?_
          rintro e w13 ⟨u13, rfl, ho13, hb13⟩
          have HC13 := Lib.hid (Aft.keep _ _ HC12.out hb13)
          have HZ13 := Lib.hid (HZ12.out.below hb13)
          have HS13 := Lib.hid (same41_any w13 u12 u13 (mvO (movesP xs ys)) (HO12.out.slv.below hb13 (Nat.le_refl _)) ho13.slv)
          clear ho13 hb13 HC12 HZ12 HO12
          go_wp2_with fail
          show mixC _ _ _ _ _ _ _
          refine mix_forced HC13.out ?_
          go_wp2_with fail
          refine HS13.out.mono ?_
          rintro e w14 ⟨rfl, m14, hw14⟩
          have hb14 : Below w13.heap.size w13 w14 := by rw [hw14]; exact below_drewN (Below.refl _ w13) m14
          have HC14 := Lib.hid (Aft.keep _ _ HC13.out hb14)
          have HZ14 := Lib.hid (HZ13.out.below hb14)
          clear hb14 hw14 HS13 HC13 HZ13
          have HBL := Lib.hid (back41_any w14 (.slice A7 i c7) (ofPD xs ys) (HSO9.out.below HC14.out (Nat.le_refl _)) (by have := HLN.out.1; omega))
          go_wp2_with fail
          show mixC _ _ _ _ _ _ _
          repeat (apply mix_first; apply Exists.intro; refine ⟨fun m => ?_, HC14.out, ?_⟩; · (go_big_quiet_step (fail); exact wpQuiet_nil rfl))
          refine mix_forced HC14.out ?_
          go_wp2_with fail
          refine HBL.out.mono ?_
          rintro e w15 ⟨u15, rfl, ho15, hb15⟩
          have HC15 := Lib.hid (Aft.keep _ _ HC14.out hb15)
          have HZ15 := Lib.hid (HZ14.out.below hb15)
          have HO15 := Lib.hid ho15
          clear ho15 hb15 HC14 HZ14 HBL
          go_wp2_with fail
          show mixC _ _ _ _ _ _ _
          refine mix_forced HC15.out ?_
          go_wp2_with fail
          refine (HRO.out w15 HZ15.out.low).mono ?_
          rintro e w16 ⟨u16, rfl, ho16, hb16⟩
          have HC16 := Lib.hid (Aft.keep _ _ HC15.out hb16)
          have HZ16 := Lib.hid (HZ15.out.below hb16)
          have HS16 := Lib.hid (same41_any w16 u15 u16 (ofPD xs ys) (HO15.out.slv.below hb16 (Nat.le_refl _)) ho16.slv)
          clear ho16 hb16 HC15 HZ15 HO15
          go_wp2_with fail
          show mixC _ _ _ _ _ _ _
          refine mix_forced HC16.out ?_
          go_wp2_with fail
          refine HS16.out.mono ?_
          rintro e w17 ⟨rfl, m17, hw17⟩
          have hb17 : Below w16.heap.size w16 w17 := by rw [hw17]; exact below_drewN (Below.refl _ w16) m17
          have HC17 := Lib.hid (Aft.keep _ _ HC16.out hb17)
          have HZ17 := Lib.hid (HZ16.out.below hb17)
          clear hb17 hw17 HS16 HC16 HZ16
          have HCT := Lib.hid (HCN.out w17 (HSO9.out.below HC17.out (Nat.le_refl _)))
          go_wp2_with fail
          show mixC _ _ _ _ _ _ _
          repeat (apply mix_first; apply Exists.intro; refine ⟨fun m => ?_, HC17.out, ?_⟩; · (go_big_quiet_step (fail); exact wpQuiet_nil rfl))
          refine mix_forced HC17.out ?_
          go_wp2_with fail
          refine HCT.out.mono ?_
          rintro e w18 ⟨rfl, hb18⟩
          have HC18 := Lib.hid (Aft.keep _ _ HC17.out hb18)
          have HZ18 := Lib.hid (HZ17.out.below hb18)
          clear hb18 HCT HC17 HZ17
          go_wp2_with fail
          show mixC _ _ _ _ _ _ _
          repeat (apply mix_first; apply Exists.intro; refine ⟨fun m => ?_, HC18.out, ?_⟩; · (go_big_quiet_step (fail); exact wpQuiet_nil rfl))
          refine mix_forced HC18.out ?_
          go_wp2_with fail
          refine (diff_lives w18).mono ?_
          rintro e w19 ⟨rfl, hb19⟩
          have HC19 := Lib.hid (Aft.keep _ _ HC18.out hb19)
          have HZ19 := Lib.hid (HZ18.out.below hb19)
          clear hb19 HC18 HZ18
          go_wp2_with fail
          show mixC _ _ _ _ _ _ _
          repeat (apply mix_first; apply Exists.intro; refine ⟨fun m => ?_, HC19.out, ?_⟩; · (go_big_quiet_step (fail); exact wpQuiet_nil rfl))
          refine mix_nil HC19.out ?_
          go_wp2_with fail
          refine ⟨by simp, .inl ⟨_, _, rfl, run_takeDeferred HZ19.out.dfr, ?_⟩⟩
          refine ⟨_, results_tmp rfl _ _ _, rfl, ?_⟩
          exact HZ19.out.low.trans (belowK_b (w := w) (Nat.le_refl _) _ (gO + 1) _ _ hD' HZ19.out.dfr rfl rfl)
end Go.Proofs.YtihiakkeloejlaaGreatDoor
/- The walk of DiffOf in the statement's form. -/
set_option linter.unusedVariables false
set_option linter.unusedSimpArgs false
namespace Go.Proofs.YtihiakkeloejlaaGreatDoor
open Go Go.ChangeShapes Go.WideShapes Go.ChangeAt Go.RowKit
open Sw
set_option maxRecDepth 100000 in
theorem diffOf_walk : Walks 4 Tryz.f4 := by
  intro H enc W base args ds ps hval hA hlt hsz
  rw [Tryz.params4] at hA hval
  obtain ⟨v0, v1, d0, d1, p0, p1, rfl, rfl, rfl, h0, h1⟩ := trodAll_two hA
  obtain ⟨w1, w2, xs, ys, rfl, g1, g2, j1, j2⟩ := open_items2D (hval 0 23 v0 rfl rfl) h0
  obtain ⟨m, rfl, rfl, rfl, wm⟩ := open_int Tryz.underlying34 (hval 1 34 v1 rfl rfl) h1
  obtain ⟨m0, m1⟩ := bounds_u64 wm
  obtain ⟨k, rfl⟩ := Int.eq_ofNat_of_zero_le m0
  exact diffOf_main W w1 w2 xs ys k g1 g2 (fun x hx => j1 x hx) (fun x hx => j2 x hx) (by omega)
end Go.Proofs.YtihiakkeloejlaaGreatDoor
