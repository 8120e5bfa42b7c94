/- Several texts, joined for the limit of sixty files; each one opens with its own comment. -/
import Derived.Test.YteofiffbobbdmaaGreatDoorJoin23
import Derived.Test.YteofiffbobbdmaaGreatDoorJoin34
import Derived.Test.YteofiffbobbdmaaGreatDoorJoin37
/- DetectNone. -/
set_option linter.unusedVariables false
set_option linter.unusedSimpArgs false
namespace Sw
open Go
theorem detSelf_none {l : List NE} (h : TI l) : (allP (marksT l ++ []) l).filter (fun f => !decide (f.2 = 0)) = [] := by
  rw [List.append_nil, allP_self h]
  exact List.filter_eq_nil_iff.2 (fun f hf => by
    obtain ⟨e, -, rfl⟩ := List.mem_map.1 hf
    simp)
theorem detSelf_len {l : List NE} (h : TI l) : (allP (marksT l ++ []) l).length = l.length := by
  rw [List.append_nil, allP_self h, List.length_map]
theorem detNil_all {l : List NE} (h : TI l) : (allP (([] : List MkE) ++ []) l).filter (fun f => !decide (f.2 = 0)) = l.map fun e => (e.1, 1) := by
  rw [List.append_nil, allP_nil h]
  exact List.filter_eq_self.2 (fun f hf => by
    obtain ⟨e, -, rfl⟩ := List.mem_map.1 hf
    simp)
theorem dropT_mem {l : List NE} (h : TI l) {p : ByteArray} {e : NE} (he : e ∈ dropT l p) : e ∈ l := by
  unfold dropT at he
  split at he
  · exact ((drop_iff h.up p e).1 he).1
  · exact he
theorem detDrop_one {l : List NE} (h : TI l) {x : NE} (hx : x ∈ l) (hw : whyDrop l x.1 = 0) : (allP (marksT l ++ []) (dropT l x.1)).filter (fun f => !decide (f.2 = 0)) = [(x.1, 3)] := by
  unfold dropT
  rw [if_pos hw, List.append_nil]
  exact allP_drop h hx
end Sw
namespace Go.Proofs.YteofiffbobbdmaaGreatDoor
open Go Go.RowKit
open Sw
theorem cntF_map (k : Int) (l : List NE) : cntF k (l.map fun e => (e.1, (1 : Int))) = if k = 1 then (l.length : Int) else 0 := by
  unfold cntF
  by_cases h : k = 1
  · rw [if_pos h, List.filter_eq_self.2 (fun f hf => by obtain ⟨e, -, rfl⟩ := List.mem_map.1 hf; simpa using h.symm), List.length_map]
  · rw [if_neg h, List.filter_eq_nil_iff.2 (fun f hf => by obtain ⟨e, -, rfl⟩ := List.mem_map.1 hf; simpa using fun e => h e.symm)]
    rfl
theorem info_intK : Tryz.prog.info? 3 = some ((Tryz.prog.info? 3).getD default) := by kernel_rfl
/-- four numbers are not unlike themselves -/
theorem neq_four (a b c d : Int) (W : World) : (Op.equalIn 10000 34 (.agg #[.int .i64 a, .int .i64 b, .int .i64 c, .int .i64 d]) (.agg #[.int .i64 a, .int .i64 b, .int .i64 c, .int .i64 d])).run Tryz.prog W = .ok true W := by
  have h := run_eql_ints (P := Tryz.prog) (k := .i64) (n := 4) (i := _) Tryz.underlying34 info_intK Tryz.underlying3 (by kernel_rfl) (by kernel_rfl) (fun j => if j = 0 then a else if j = 1 then b else if j = 2 then c else d) #[.int .i64 a, .int .i64 b, .int .i64 c, .int .i64 d] (fun j hj => by
    have : j = 0 ∨ j = 1 ∨ j = 2 ∨ j = 3 := by omega
    rcases this with rfl | rfl | rfl | rfl <;> rfl) W
  rw [run_eql_struct] at h
  generalize (Op.equalIn 10000 34 (.agg #[.int .i64 a, .int .i64 b, .int .i64 c, .int .i64 d]) (.agg #[.int .i64 a, .int .i64 b, .int .i64 c, .int .i64 d])).run Tryz.prog W = r at h
  cases r with
  | ok x w' =>
    simp only [Result.andThen_ok, Result.ok.injEq, Value.bool.injEq] at h ⊢
    exact h
  | _ => cases h
theorem slv_noneD (w : World) : SlV w 6 eCM (.slice none 0 0) ([] : List MkE) := ⟨none, 0, rfl, Nat.le_refl _, by simp [maxLen], fun hp => absurd hp (by simp)⟩
theorem OwnFd.slvFD {w : World} {base : Nat} {u : Value} {l : List FdE} (h : OwnFd w base u l) : SlV w 2 eCFD u l := SlV.of_own h (fun x => rfl) (by decide)
theorem blkD_kept {W W' : World} {g : Nat} {t : TypeId} {cs : Array Value} {m : Nat} {ms : Array Value} (h : Blk W g t cs) (hm : Blk W m 155 ms) (ht : ¬ t = 155) (hg : W.grownBy W' (some m)) : Blk W' g t cs :=
  h.grown hg (by rintro ⟨⟩; exact Blk.other h hm ht rfl)
set_option maxRecDepth 100000 in
set_option maxHeartbeats 8000000 in
theorem detectNone_main (w : World) (v : Value) (l : List NE) (at_ : Int) (h : SlV w 5 eCSN v l) (hin : ∀ x ∈ l, x.1.size ≤ maxLen ∧ NdIn x.2) (ha0 : 0 ≤ at_) (ha1 : at_ < 2 ^ 64) :
    Calls Tryz.prog 4 #[v, .int .u64 at_] w fun e w' => e = .returned (.bool true) ∧ Below w.heap.size w w' := by
  have HLI := Lib.hid (light29_nil w v l h hin)
  have HS := Lib.hid (And.intro h hin); clear hin
  obtain ⟨A, c, rfl, hc, hcm, hsl⟩ := h
  obtain ⟨n, hn⟩ : ∃ n, l.length = n := ⟨_, rfl⟩
  have HN := Lib.hid hn
  rw [hn] at HLI HS hc ⊢
  have HC := Lib.hid (And.intro hc hcm)
  clear hc hcm hn hsl
  go_enter Tryz.func4, Tryz.ntmps4
  go_wp2_with fail
  refine HLI.out.mono ?_
  rintro e w1 ⟨R, rfl, hR, hb1⟩
  have H1 := Lib.hid (And.intro hb1 hR); clear hb1 hR HLI
  cases R with
  | false =>
    go_wp2_with fail
    refine (detect_lives _).mono ?_
    rintro e w2 ⟨rfl, hb2⟩
    have H2 := Lib.hid (H1.out.1.trans (hb2.mono H1.out.1.size)); clear hb2
    go_wp2_with fail
    go_ret
    exact ⟨rfl, H2.out⟩
  | true =>
    obtain ⟨hl30, hsm, hput⟩ := H1.out.2 rfl
    have hti := ti_of_puts (by rw [hput] : (putsT [] l).2 = l)
    have HTI := Lib.hid hti
    have hp : ∀ x ∈ l, x.1.size ≤ 90000 := fun x hx => by have := (hsm x hx).1; omega
    have hd : ∀ x ∈ l, x.2.data.size ≤ maxLen := fun x hx => by have := (hsm x hx).2; unfold maxLen; omega
    have hn30 : n ≤ 30 := hl30
    have hl30 : l.length ≤ 30 := by rw [HN.out]; exact hn30
    have HP := Lib.hid (And.intro hl30 (And.intro hp hd))
    have HTO := Lib.hid (treeOf_any w1 (.slice A n c) l (HS.out.1.below H1.out.1 (Nat.le_refl _)) (by omega) (fun x hx => ⟨hp x hx, (HS.out.2 x hx).2⟩) hti)
    clear hl30 hsm hput hti hp hd
    rw [HN.out] at HTO
    go_wp2_with fail
    refine HTO.out.mono ?_
    rintro e w2 ⟨bt, bm, rfl, hT, hbt, hbm, hb2⟩
    have H2 := Lib.hid (And.intro (H1.out.1.trans (hb2.mono H1.out.1.size)) (And.intro hT (And.intro (Nat.le_trans H1.out.1.size hbt) (Nat.le_trans H1.out.1.size hbm))))
    clear hT hbt hbm hb2 HTO
    have HMA := Lib.hid (marksAll_any w2 bt bm l H2.out.2.1 (by have := HP.out.1; omega) HP.out.2.1 HP.out.2.2)
    go_wp2_with fail
    refine HMA.out.mono ?_
    rintro e w3 ⟨r, rfl, hor, hb3⟩
    have H3 := Lib.hid (And.intro (H2.out.1.trans (hb3.mono H2.out.1.size)) (And.intro (H2.out.2.1.below hb3) hor))
    clear hor hb3 HMA
    have hsM : SlV w3 6 eCM r (marksT l) := H3.out.2.2.slv
    obtain ⟨A2, c2, rfl, hc2, hcm2, -⟩ := hsM
    have hml : (marksT l).length = n := by unfold marksT; rw [List.length_map]; exact HN.out
    rw [hml] at H3 hc2 ⊢
    have HC2 := Lib.hid (And.intro hc2 hcm2); clear hc2 hcm2
    go_upto_region 5 with fail
    have hba : Below w3.heap.size w3 (w3.alloc (.cells #[.slice A2 n c2, .slice none 0 0] 24)) := (Below.refl _ _).alloc (Nat.le_refl _) _
    have hB4 : Blk (w3.alloc (.cells #[.slice A2 n c2, .slice none 0 0] 24)) w3.heap.size 24 #[.slice A2 n c2, .slice none 0 0] := Blk.new _ _ _
    generalize w3.alloc (.cells #[.slice A2 n c2, .slice none 0 0] 24) = w4 at *
    have hb4 := H3.out.1.trans (hba.mono H3.out.1.size)
    have hT4 := H3.out.2.1.below hba
    have ho4 : OwnMk w4 w2.heap.size (.slice A2 n c2) (marksT l) := H3.out.2.2.below hba
    generalize w3.heap.size = B at *
    have H4 := Lib.hid (And.intro hb4 (And.intro hT4 (And.intro ho4 hB4)))
    clear hba hb4 hT4 ho4 H3 hB4
    have hmp : ∀ m ∈ marksT l, m.1.size ≤ 90000 := fun m hm => by obtain ⟨e, he, rfl⟩ := List.mem_map.1 hm; exact HP.out.2.1 e he
    have hnp : ∀ m ∈ ([] : List MkE), m.1.size ≤ 90000 := fun m hm => by cases hm
    have HMP := Lib.hid (And.intro hmp hnp); clear hmp hnp
    have x0 := H4.out.2.2.2.cell 0
    have x1 := H4.out.2.2.2.cell 1
    simp at x0 x1
    have hof := detOf_any w4 (.slice A2 n c2) (.slice none 0 0) (marksT l) [] bt bm l H4.out.2.2.1.slv (slv_noneD w4) (by rw [hml]; omega) (by simp) HMP.out.1 HMP.out.2 H4.out.2.1 (by have := HP.out.1; omega) HP.out.2.1 HP.out.2.2
    rw [detSelf_none HTI.out] at hof
    have HOF := Lib.hid hof; clear hof
    go_wp2_with fail
    refine HOF.out.mono ?_
    rintro e w5 ⟨u5, rfl, ho5, hb5⟩
    obtain ⟨A5, c5, rfl, -, -, -⟩ := SlV_of_any ho5
    have H5 := Lib.hid (And.intro (H4.out.1.trans (hb5.mono H4.out.1.size)) (And.intro (H4.out.2.1.below hb5) (And.intro (H4.out.2.2.1.below hb5) (H4.out.2.2.2.below hb5 H4.out.2.2.2.lt))))
    clear x0 x1 ho5 hb5 HOF H4
    have x0 := H5.out.2.2.2.cell 0
    have x1 := H5.out.2.2.2.cell 1
    simp at x0 x1
    have hal := detAll_any w5 (.slice A2 n c2) (.slice none 0 0) (marksT l) [] bt bm l H5.out.2.2.1.slv (slv_noneD w5) (by rw [hml]; omega) (by simp) HMP.out.1 HMP.out.2 H5.out.2.1 (by have := HP.out.1; omega) HP.out.2.1 HP.out.2.2
    have hal2 := detSelf_len HTI.out
    rw [HN.out] at hal2
    generalize allP (marksT l ++ []) l = F at hal hal2
    have HAL := Lib.hid hal; clear hal
    go_wp2_with fail
    refine HAL.out.mono ?_
    rintro e w6 ⟨u6, rfl, ho6, hb6⟩
    unfold OwnFd at ho6
    rw [hal2] at ho6
    obtain ⟨A6, c6, rfl, -, -, -⟩ := SlV_of_any ho6
    have H6 := Lib.hid (And.intro (H5.out.1.trans (hb6.mono H5.out.1.size)) (And.intro (H5.out.2.1.below hb6) (And.intro (H5.out.2.2.1.below hb6) (H5.out.2.2.2.below hb6 H5.out.2.2.2.lt))))
    clear x0 x1 ho6 hb6 HAL H5 hal2
    have hof := detOf_any w6 (.slice none 0 0) (.slice none 0 0) [] [] bt bm l (slv_noneD w6) (slv_noneD w6) (by simp) (by simp) HMP.out.2 HMP.out.2 H6.out.2.1 (by have := HP.out.1; omega) HP.out.2.1 HP.out.2.2
    rw [detNil_all HTI.out] at hof
    have HOF := Lib.hid hof; clear hof
    go_wp2_with fail
    refine HOF.out.mono ?_
    rintro e w7 ⟨u7, rfl, ho7, hb7⟩
    have hcn := detCount_any w7 u7 (l.map fun e => (e.1, 1)) ho7.slvFD (by rw [List.length_map]; have := HP.out.1; omega) (fun f hf => by obtain ⟨e, -, rfl⟩ := List.mem_map.1 hf; exact .inr (.inl rfl))
    simp only [cntF_map, if_neg (show ¬ (0 : Int) = 1 by decide), if_neg (show ¬ (2 : Int) = 1 by decide), if_neg (show ¬ (3 : Int) = 1 by decide), if_pos, HN.out] at hcn
    have HCN := Lib.hid hcn; clear hcn
    have H7 := Lib.hid (And.intro (H6.out.1.trans (hb7.mono H6.out.1.size)) (And.intro (H6.out.2.1.below hb7) (And.intro (H6.out.2.2.1.below hb7) (H6.out.2.2.2.below hb7 H6.out.2.2.2.lt))))
    clear ho7 hb7 HOF H6
    have hneq := fun (k : Int) (W : World) => neq_four 0 k 0 0 W
    go_wp2_with fail
    refine HCN.out.mono ?_
    rintro e w8 ⟨rfl, hb8⟩
    have H8 := Lib.hid (And.intro (H7.out.1.trans (hb8.mono H7.out.1.size)) (And.intro (H7.out.2.1.below hb8) (And.intro (H7.out.2.2.1.below hb8) (H7.out.2.2.2.below hb8 H7.out.2.2.2.lt))))
    clear hb8 HCN H7
    by_cases hn0 : n = 0
    · subst hn0
      go_wp2_with fail
      refine (detect_lives _).mono ?_
      rintro e w9 ⟨rfl, hb9⟩
      have H9 := Lib.hid (H8.out.1.trans (hb9.mono H8.out.1.size)); clear hb9
      go_wp2_with fail
      go_ret
      exact ⟨rfl, H9.out⟩
    · have hn1 : 0 < n := Nat.pos_of_ne_zero hn0
      obtain ⟨k, hk⟩ : ∃ k : Nat, at_ % (n : Int) = (k : Int) := ⟨(at_ % (n : Int)).toNat, (Int.toNat_of_nonneg (Int.emod_nonneg _ (by omega))).symm⟩
      have hkn : k < n := by have := Int.emod_lt_of_pos at_ (show (0 : Int) < n by omega); omega
      have htm : at_.tmod n = (k : Int) := by rw [IntWalk.rem_in at_ n ha0, hk]
      have hwk : IntKind.u64.wrap (k : Int) = k := IntWalk.u64_in _ (by omega)
      have hwn : IntKind.u64.wrap (n : Int) = n := IntWalk.u64_in _ (by omega)
      have hkl : k < l.length := by have := HN.out; omega
      obtain ⟨A', c', hAc, -, -, hs⟩ := HS.out.1.below H8.out.1 (Nat.le_refl _)
      obtain ⟨rfl, -, rfl⟩ : A = A' ∧ n = l.length ∧ c = c' := by simpa using hAc
      obtain ⟨bb, off, rfl, hbb, hcs⟩ := hs (by omega)
      have c0 := hcs k hkl 0 (by omega)
      simp [eCSN] at c0
      have hxm : l[k] ∈ l := List.getElem_mem hkl
      have hpk := HP.out.2.1 _ hxm
      obtain ⟨x, hx⟩ : ∃ x, l[k] = x := ⟨_, rfl⟩
      rw [hx] at c0 hxm hpk
      have HX := Lib.hid hxm
      clear hcs hs hAc hbb hk hkl hx hxm
      have HDR := Lib.hid (treeDrop_any w8 bt bm l x.1 H8.out.2.1 (by have := HP.out.1; omega) hpk)
      clear hpk
      obtain ⟨p, q⟩ := x
      have HOF := Lib.hid (fun (W : World) (r : Value) (h1 : SlV W 6 eCM r (marksT l)) (hT : TreeAt W bt bm (dropT l p)) (hw : whyDrop l p = 0) => (by
        have := detOf_any W r (.slice none 0 0) (marksT l) [] bt bm (dropT l p) h1 (slv_noneD W) (by rw [hml]; omega) (by simp) HMP.out.1 HMP.out.2 hT (by have := HP.out.1; have := dropT_len l p; omega) (fun e he => HP.out.2.1 e (dropT_mem HTI.out he)) (fun e he => HP.out.2.2 e (dropT_mem HTI.out he))
        rw [detDrop_one HTI.out HX.out hw] at this
        exact this : Calls Tryz.prog 14 #[.agg #[r, .slice none 0 0], .pointer (some ⟨bt, 0, none⟩)] W fun e w' => ∃ u, e = .returned u ∧ OwnFd w' W.heap.size u [(p, 3)] ∧ Below W.heap.size W w'))
      generalize dropT l p = ys at *
      obtain ⟨ans, hans⟩ : ∃ ans, whyDrop l p = ans := ⟨_, rfl⟩
      simp only [hans] at HDR HOF
      clear hans
      go_wp2_with fail
      refine HDR.out.mono ?_
      rintro e w9 ⟨rfl, hT9, hg9⟩
      obtain ⟨vm, hbmm, -⟩ := H8.out.2.1.map.row
      have H9 := Lib.hid (And.intro (H8.out.1.grown hg9 H8.out.1.size (fun k hk => by cases hk; exact H2.out.2.2.2)) (And.intro hT9 (And.intro (show OwnMk w9 w2.heap.size (.slice A2 n c2) (marksT l) from own_grown_typ H8.out.2.2.1 hg9 hbmm (by decide)) (blkD_kept H8.out.2.2.2 hbmm (by decide) hg9))))
      clear hT9 hg9 hbmm H8 HDR c0
      by_cases h0 : ans = 0
      · subst h0
        have x0 := H9.out.2.2.2.cell 0
        have x1 := H9.out.2.2.2.cell 1
        simp at x0 x1
        have HO9 := Lib.hid (HOF.out w9 _ H9.out.2.2.1.slv H9.out.2.1 rfl); clear HOF
        go_wp2_with fail
        refine HO9.out.mono ?_
        rintro e w10 ⟨u10, rfl, ho10, hb10⟩
        obtain ⟨A10, c10, rfl, -, -, hs10⟩ := ho10.slvFD
        obtain ⟨g10, off10, rfl, -, hcs⟩ := hs10 (by simp)
        have c0 := hcs 0 (by simp) 0 (by omega)
        have c1 := hcs 0 (by simp) 1 (by omega)
        simp [eCFD] at c0 c1
        have te : (p.toList == p.toList) = true := by simp
        have H10 := Lib.hid (H9.out.1.trans (hb10.mono H9.out.1.size))
        clear x0 x1 hcs hs10 ho10 hb10 HO9
        go_wp2_with fail
        refine (detect_lives _).mono ?_
        rintro e w11 ⟨rfl, hb11⟩
        have H11 := Lib.hid (H10.out.trans (hb11.mono H10.out.size)); clear hb11
        go_wp2_with fail
        go_ret
        exact ⟨rfl, H11.out⟩
      · have e0 : (ans == 0) = false := by rw [beq_eq_false_iff_ne]; exact h0
        clear h0 HOF
        go_wp2_with fail
        refine (detect_lives _).mono ?_
        rintro e w11 ⟨rfl, hb11⟩
        have H11 := Lib.hid (H9.out.1.trans (hb11.mono H9.out.1.size)); clear hb11
        go_wp2_with fail
        go_ret
        exact ⟨rfl, H11.out⟩
end Go.Proofs.YteofiffbobbdmaaGreatDoor
