/- Several texts, joined for the limit of sixty files; each one opens with its own comment. -/
import Derived.Test.YtmpgmgjokliceaaGreatDoorJoin23
import Derived.Test.YtmpgmgjokliceaaGreatDoorJoin28
import Derived.Test.YtmpgmgjokliceaaGreatDoorJoin35
import Derived.Test.YtmpgmgjokliceaaGreatDoorJoin36
/- The reference's plan: Of of layer 32. -/
set_option linter.unusedVariables false
set_option linter.unusedSimpArgs false
namespace Go.Proofs.YtmpgmgjokliceaaGreatDoor
open Go Go.RowKit
open Sw
theorem infoS32 : (Tryz.prog.info? 39).map (fun i => (i.zero, i.size, i.bytes)) = some (some (.agg #[.string ⟨#[]⟩, .int .i64 0, .int .i64 0, .int .u32 0, .string ⟨#[]⟩, .bool false, .slice none 0 0]), 7, 88) := by kernel_rfl
/-- the steps so far: a row of steps, whose items lie -/
def RoI (w : World) (o : Value) (l : List (StepP × Value)) (W : World) : Prop := W.ownsRow w.heap.size 39 7 o l.length (l.flatMap eSt) ∧ (∀ s ∈ l, Lies W 70 5 eCSN s.2 s.1.items) ∧ Below w.heap.size w W
theorem RoI.below {w A B : World} {o : Value} {l : List (StepP × Value)} (h : RoI w o l A) (hb : Below A.heap.size A B) : RoI w o l B := ⟨own_kept h.1 hb, fun s hs => (h.2.1 s hs).below hb, h.2.2.trans (hb.mono h.2.2.size)⟩
/-- what an append to the row of steps keeps -/
theorem lies32 {V X : World} {base : Nat} {u : Value} {n : Nat} {xs : List Value} (ho : V.ownsRow base 39 7 u n xs) (hg : V.grownBy X u.ownBlock) {te : TypeId} {size : Nat} {α : Type} {E : α → List Value} (hne : 39 ≠ te) {v : Value} {its : List α} (h : Lies V te size E v its) : Lies X te size E v its :=
  h.kept fun g cur _ hB => by
    have h2 := hB.grown hg (fun e => own_ne_blk ho hB hne e.symm)
    unfold Blk at h2 hB
    rw [h2, hB]
/-- the steps so far, the paths and the tops -/
structure RoS (w : World) (pv : Value) (qs : List ByteArray) (tv : Value) (TP : List ByteArray) (o : Value) (l : List (StepP × Value)) (W : World) : Prop where
  row : RoI w o l W
  ps : Lies W 9 1 sE pv qs
  ts : Lies W 9 1 sE tv TP
theorem RoS.below {w A B : World} {pv tv o : Value} {qs TP : List ByteArray} {l : List (StepP × Value)} (h : RoS w pv qs tv TP o l A) (hb : Below A.heap.size A B) : RoS w pv qs tv TP o l B := ⟨h.row.below hb, h.ps.below hb, h.ts.below hb⟩
theorem RoS.app {w U X : World} {pv tv o : Value} {qs TP : List ByteArray} {l : List (StepP × Value)} {g n cap : Nat} {s : StepP × Value} {ob : Obj} (h : RoS w pv qs tv TP o l U) (hn : l.length = n) (hs : Lies U 70 5 eCSN s.2 s.1.items) (hown : X.ownsRow w.heap.size 39 7 (.slice (some ⟨g, 0, none⟩) (n + 1) cap) (n + 1) (l.flatMap eSt ++ eSt s)) (hgr : (U.alloc ob).grownBy X o.ownBlock) : RoS w pv qs tv TP (.slice (some ⟨g, 0, none⟩) (n + 1) cap) (l ++ [s]) X := by
  have hb : Below U.heap.size U (U.alloc ob) := (Below.refl _ _).alloc (Nat.le_refl _) _
  have h1 := h.below hb
  refine ⟨⟨?_, fun t ht => ?_, h1.row.2.2.grown hgr h1.row.2.2.size (fun k hk => (h1.row.1.lt k hk).1)⟩, lies32 h1.row.1 hgr (by decide) h1.ps, lies32 h1.row.1 hgr (by decide) h1.ts⟩
  · rw [List.length_append, List.length_singleton, hn, List.flatMap_append]
    simpa using hown
  · rcases List.mem_append.1 ht with h2 | h2
    · exact lies32 h1.row.1 hgr (by decide) (h1.row.2.1 t h2)
    · have : t = s := by simpa using h2
      subst this
      exact lies32 h1.row.1 hgr (by decide) (hs.below hb)
theorem fmap_take {α β : Type} (f : α → Option β) (l : List α) (i : Nat) (h : i < l.length) : (l.take (i + 1)).filterMap f = (l.take i).filterMap f ++ (f l[i]).toList := by
  rw [List.take_succ_eq_append_getElem h, List.filterMap_append]
  congr 1
set_option maxRecDepth 100000 in
set_option maxHeartbeats 8000000 in
theorem ref32Of_any (w : World) (v1 v2 gv : Value) (xs ys : List NE) (gs : List ByteArray) (h1 : SlV w 5 eCSN v1 xs) (h2 : SlV w 5 eCSN v2 ys) (hg : SlV w 1 sE gv gs) (hxl : xs.length ≤ 100) (hyl : ys.length ≤ 100) (hgl : gs.length ≤ 100) (hxp : ∀ e ∈ xs, e.1.size ≤ 90000) (hyp : ∀ e ∈ ys, e.1.size ≤ 90000) (hgz : ∀ p ∈ gs, p.size ≤ 90000) (hxd : ∀ e ∈ xs, e.2.data.size ≤ maxLen) (hyd : ∀ e ∈ ys, e.2.data.size ≤ maxLen) (hux : Up ordS xs) (huy : Up ordS ys) :
    Calls Tryz.prog 10 #[v1, v2, gv] w fun e w' => ∃ (o : Value) (l : List (StepP × Value)), e = .returned o ∧ RoI w o l w' ∧ l.map Prod.fst = planN xs ys (topsN gs) := by
  have HTP := Lib.hid (tops32_any w gv gs hg (by omega) hgz)
  have htpz : ∀ p ∈ topsN gs, p.size ≤ 90000 := fun p hp => hgz p ((List.mem_filter.1 hp).1)
  have htl : (topsN gs).length ≤ 100 := Nat.le_trans (List.length_filter_le _ _) hgl
  obtain ⟨TP, hTP⟩ : ∃ TP, topsN gs = TP := ⟨_, rfl⟩
  rw [hTP] at htpz htl HTP
  rw [hTP]
  have HD := Lib.hid (And.intro hxd hyd)
  have HD2 := Lib.hid (And.intro hux huy)
  have HXZ := Lib.hid (And.intro hxp (And.intro hyp htpz))
  have HX1 := Lib.hid (fun W (hb : Below w.heap.size w W) p (hp : ByteArray.size p ≤ 90000) => part31_any W v1 xs p (h1.below hb (Nat.le_refl _)) (by omega) hxp)
  have HX2 := Lib.hid (fun W (hb : Below w.heap.size w W) p (hp : ByteArray.size p ≤ 90000) => part31_any W v2 ys p (h2.below hb (Nat.le_refl _)) (by omega) hyp)
  have HGE := Lib.hid (And.intro (fun W (hb : Below w.heap.size w W) p => (by have := ref16Get_any W v1 xs p (h1.below hb (Nat.le_refl _)); rw [refGetT_eq xs p hux] at this; exact this : Calls Tryz.prog 46 #[v1, .string p] W fun e w' => e = .returned (.agg (getT xs p).c) ∧ Below W.heap.size W w')) (fun W (hb : Below w.heap.size w W) p => (by have := ref16Get_any W v2 ys p (h2.below hb (Nat.le_refl _)); rw [refGetT_eq ys p huy] at this; exact this : Calls Tryz.prog 46 #[v2, .string p] W fun e w' => e = .returned (.agg (getT ys p).c) ∧ Below W.heap.size W w')))
  have HPA := Lib.hid (fun W (hb : Below w.heap.size w W) => refPathsPsI_any W (.slice none 0 0) (.slice none 0 0) [] [] ⟨none, 0, rfl, Nat.le_refl _, by simp [maxLen], SlOf.nil _ _ _ _⟩ ⟨none, 0, rfl, Nat.le_refl _, by simp [maxLen], SlOf.nil _ _ _ _⟩ (by simp) (by simp) (by simp) v1 v2 xs ys (h1.below hb (Nat.le_refl _)) (h2.below hb (Nat.le_refl _)) hxl hyl (fun m hm => (List.mem_append.1 hm).elim (hxp m) (hyp m)))
  obtain ⟨A1', c1', e1, -, -, -⟩ := h1
  obtain ⟨A2', c2', e2, -, -, -⟩ := h2
  obtain ⟨A3', c3', e3, -, -, -⟩ := hg
  obtain ⟨l1, hl1⟩ : ∃ n, xs.length = n := ⟨_, rfl⟩
  obtain ⟨l2, hl2⟩ : ∃ n, ys.length = n := ⟨_, rfl⟩
  obtain ⟨l3, hl3⟩ : ∃ n, gs.length = n := ⟨_, rfl⟩
  rw [hl1] at e1
  rw [hl2] at e2
  rw [hl3] at e3
  subst e1 e2 e3
  have HLL := Lib.hid (And.intro hl1 (And.intro hl2 (And.intro hxl (And.intro hyl htl))))
  clear hxl hyl hgl hl1 hl2 hl3 htl hxp hyp htpz hxd hyd hux huy hgz
  have hfld := nodeField0
  go_enter Tryz.func10, Tryz.ntmps10
  go_wp2_with fail
  refine HTP.out.mono ?_
  rintro e w1 ⟨tv, rfl, hot, hb1⟩
  obtain ⟨nt, hnt⟩ : ∃ n, TP.length = n := ⟨_, rfl⟩
  have htl : nt ≤ 100 := by rw [← hnt]; exact HLL.out.2.2.2.2
  rw [hnt] at hot
  obtain ⟨At, ct, rfl, -, -, -⟩ := SlV_of_any hot
  have HT1 := Lib.hid (And.intro (Lies.of_own hot sE_lenP (by decide)) hb1)
  have HNT := Lib.hid hnt
  clear hot hb1 hnt HTP hTP
  go_wp2_with fail
  refine (HPA.out w1 HT1.out.2).mono ?_
  rintro e w2 ⟨⟨o, rfl, hP⟩, hb2⟩
  have HP0 := Lib.hid (And.intro hP (And.intro (HT1.out.1.below hb2) (HT1.out.2.trans (hb2.mono HT1.out.2.size))))
  have HW12 := Lib.hid hb2
  clear hP hb2 HPA
  go_wp2_with fail
  go_loopw [8, 29] (fun ov iv wr => ∃ i : Nat, i ≤ nt ∧ iv = .int .i64 i ∧ PsI w1 ov (([] : List ByteArray) ++ (xs ++ ys).map Prod.fst ++ TP.take i) wr ∧ Lies wr 9 1 sE (.slice At nt ct) TP ∧ Below w1.heap.size w1 wr) (fun _ iv _ => nt - (intOf iv).toNat)
  case atStart => exact ⟨0, Nat.zero_le _, rfl, by have := HP0.out.1; simpa using this, HP0.out.2.1, HW12.out⟩
  case round =>
    obtain ⟨i, hi, rfl, hP, hT, hb⟩ := hrel
    by_cases hlt : i < nt
    · have hiL : i < TP.length := by have := HNT.out; omega
      obtain ⟨A', c', hA, _, _, hso⟩ := hT.slv sE_lenP
      rw [HNT.out] at hA
      obtain ⟨rfl, rfl⟩ : At = A' ∧ ct = c' := by injection hA with e1 e2 e3; exact ⟨e1, e3⟩
      clear hA
      obtain ⟨b, off, rfl, hbb, hcs⟩ := hso (by omega)
      have c0 := hcs i hiL 0 (by decide)
      simp only [sE, List.getElem?_cons_zero, Nat.add_zero, Nat.mul_one] at c0
      clear hcs hso
      have hi1 : (i : Int) < nt := by omega
      have hpz := HXZ.out.2.2 _ (List.getElem_mem hiL)
      have hst : ([] : List ByteArray) ++ (xs ++ ys).map Prod.fst ++ TP.take (i + 1) = (([] : List ByteArray) ++ (xs ++ ys).map Prod.fst ++ TP.take i) ++ [TP[i]] := by rw [List.take_succ_eq_append_getElem hiL]; simp
      have hlen : (([] : List ByteArray) ++ (xs ++ ys).map Prod.fst ++ TP.take i).length ≤ 1000 := by
        have h1 := HLL.out.2.2.1
        have h2 := HLL.out.2.2.2.1
        have h3 := HLL.out.2.2.2.2
        simp
        omega
      have HPU := Lib.hid (psI_put hP hb.size hlen TP[i] (fun q hq => by
        rcases List.mem_append.1 hq with h | h
        · simp only [List.nil_append, List.map_append] at h
          rcases List.mem_append.1 h with h | h
          · obtain ⟨z, hz, e'⟩ := List.mem_map.1 h
            rw [← e']; exact HXZ.out.1 z hz
          · obtain ⟨z, hz, e'⟩ := List.mem_map.1 h
            rw [← e']; exact HXZ.out.2.1 z hz
        · exact HXZ.out.2.2 q (List.mem_of_mem_take h)) hpz)
      have HS := Lib.hid (And.intro hst (And.intro hT hb))
      clear hst hT hb hP hlen hpz
      generalize TP[i] = p at *
      go_wp2_with fail
      refine HPU.out.mono ?_
      rintro e w5 ⟨⟨u, rfl, hP5⟩, hb5⟩
      rw [← HS.out.1] at hP5
      have H5 := Lib.hid (And.intro hP5 (And.intro (HS.out.2.1.below hb5) (HS.out.2.2.trans (hb5.mono HS.out.2.2.size))))
      clear hP5 hb5 HPU
      go_wp2_with fail
      go_roundw
      case rel => exact ⟨i + 1, by omega, by go_num, H5.out⟩
      case measure => simp [intOf]; omega
    · obtain rfl : i = nt := by omega
      have htk : TP.take i = TP := List.take_of_length_le (by have := HNT.out; omega)
      rw [htk] at hP
      obtain ⟨qs, hq1, hq2, hq3, hq4, -⟩ := hP
      have hqe : qs = pathsN xs ys TP := by
        refine (pathsS_eq hq2 (fun q => ?_)).symm
        rw [hq3 q]
        simp
      have hqz : ∀ q ∈ qs, q.size ≤ 90000 := fun q hq => by
        have hq := (hq3 q).1 hq
        rcases List.mem_append.1 hq with h | h
        · simp only [List.nil_append, List.map_append] at h
          rcases List.mem_append.1 h with h | h
          · obtain ⟨z, hz, e'⟩ := List.mem_map.1 h
            rw [← e']; exact HXZ.out.1 z hz
          · obtain ⟨z, hz, e'⟩ := List.mem_map.1 h
            rw [← e']; exact HXZ.out.2.1 z hz
        · exact HXZ.out.2.2 q h
      have hql : qs.length ≤ 1000 := by
        have h1 := HLL.out.2.2.1
        have h2 := HLL.out.2.2.2.1
        have h3 := HLL.out.2.2.2.2
        simp at hq4
        omega
      obtain ⟨N, hN⟩ : ∃ N, qs.length = N := ⟨_, rfl⟩
      have hNb : N ≤ 1000 := by rw [← hN]; exact hql
      have hq1' := hq1
      unfold OwnS at hq1'
      rw [hN] at hq1'
      obtain ⟨Ap, cp, rfl, -, -, -⟩ := SlV_of_any hq1'
      have HQ := Lib.hid hqz
      have HN := Lib.hid hN
      have HQE := Lib.hid hqe
      have HR0 := Lib.hid (show RoS w (.slice Ap N cp) qs (.slice At i ct) TP (.slice none 0 0) [] wr from ⟨⟨World.ownsRow_nil _ _ _ _, fun s hs => by simp at hs, HT1.out.2.trans (hb.mono HT1.out.2.size)⟩, Lies.of_own hq1' sE_lenP (by decide), hT⟩)
      clear hq1 hq1' hq2 hq3 hq4 hqe hqz hql htk hT hb hN HP0 HT1 HW12
      generalize wr = wz at *
      generalize hnt0 : i = nt0 at *
      clear hnt0
      go_wp2_with fail
      go_loopw [11, 39] (fun ov iv wr => ∃ (i : Nat) (l : List (StepP × Value)), i ≤ N ∧ iv = .int .i64 i ∧ l.map Prod.fst = (qs.reverse.take i).filterMap (awayN xs ys TP) ∧ RoS w (.slice Ap N cp) qs (.slice At nt0 ct) TP ov l wr) (fun _ iv _ => N - (intOf iv).toNat)
      case atStart => exact ⟨0, [], Nat.zero_le _, rfl, rfl, HR0.out⟩
      case round =>
        obtain ⟨i, l, hi, rfl, hml, hR⟩ := hrel
        by_cases hlt : i < N
        · obtain ⟨m, hm⟩ : ∃ m, l.length = m := ⟨_, rfl⟩
          have ho := hR.row.1
          rw [hm] at ho
          obtain ⟨Ao, co, rfl, -, -, -⟩ := SlV_of_any ho
          have hNL := HN.out
          have hmb : m ≤ 20000 := by
            have h1 := congrArg List.length hml
            have h2 := List.length_filterMap_le (awayN xs ys TP) (qs.reverse.take i)
            rw [List.length_map] at h1
            rw [List.length_take, List.length_reverse] at h2
            omega
          obtain ⟨A', c', hA, _, _, hso⟩ := hR.ps.slv sE_lenP
          rw [hNL] at hA
          obtain ⟨rfl, rfl⟩ : Ap = A' ∧ cp = c' := by injection hA with e1 e2 e3; exact ⟨e1, e3⟩
          clear hA
          obtain ⟨b, off, rfl, hbb, hcs⟩ := hso (by omega)
          have hkL : N - 1 - i < qs.length := by omega
          have hst : (qs.reverse.take (i + 1)).filterMap (awayN xs ys TP) = (qs.reverse.take i).filterMap (awayN xs ys TP) ++ ((awayN xs ys TP) qs[N - 1 - i]).toList := by
            rw [fmap_take _ _ i (by rw [List.length_reverse]; omega), List.getElem_reverse]
            simp only [hNL]
          have c0 := hcs (N - 1 - i) hkL 0 (by decide)
          have hpz := HQ.out _ (List.getElem_mem hkL)
          obtain ⟨p, hp⟩ : ∃ x, qs[N - 1 - i] = x := ⟨_, rfl⟩
          simp only [hp] at c0 hst hpz
          have w1 : IntKind.i64.wrap ((N : Int) - 1) = ((N - 1 : Nat) : Int) := by rw [IntWalk.i64_in _ (by omega)]; omega
          have w2 : IntKind.i64.wrap (((N - 1 : Nat) : Int) - i) = ((N - 1 - i : Nat) : Int) := by rw [IntWalk.i64_in _ (by omega)]; omega
          have hk1 : ((N - 1 - i : Nat) : Int) < N := by omega
          obtain ⟨K, hK⟩ : ∃ K, N - 1 - i = K := ⟨_, rfl⟩
          rw [hK] at c0 w2 hk1
          simp only [sE, List.getElem?_cons_zero, Nat.add_zero, Nat.mul_one] at c0
          clear hcs hso hp hK hkL hNL
          have hi1 : (i : Int) < N := by omega
          obtain ⟨R, hRR⟩ : ∃ R, awayN xs ys TP p = R := ⟨_, rfl⟩
          rw [hRR] at hst
          unfold awayN at hRR
          have HP1 := Lib.hid (fun W (hb : Below w.heap.size w W) => HX1.out W hb p hpz)
          have HP2 := Lib.hid (fun W (hb : Below w.heap.size w W) => HX2.out W hb p hpz)
          have HG1 := Lib.hid (fun W (hb : Below w.heap.size w W) => HGE.out.1 W hb p)
          have HG2 := Lib.hid (fun W (hb : Below w.heap.size w W) => HGE.out.2 W hb p)
          have HTI := Lib.hid (fun (h : isTop TP p = true) => inside_top h)
          have HIS := Lib.hid (fun W (ht : Lies W 9 1 sE (.slice At nt0 ct) TP) => is32_any W p _ TP (ht.slv sE_lenP))
          have HIN := Lib.hid (fun W (ht : Lies W 9 1 sE (.slice At nt0 ct) TP) => inside32_any W p _ TP (ht.slv sE_lenP) hpz)
          have HSS := Lib.hid (fun W u v => ref16Same_any W u v (undT p xs) (undT p ys))
          have HUD := Lib.hid (And.intro (undT_data (p := p) HD.out.1) (undT_data (p := p) HD.out.2))
          have HPX := Lib.hid (fun W => refPrint_any W (getT xs p) (getT_sz32 HD2.out.1 HD.out.1))
          have HPY := Lib.hid (fun W => refPrint_any W (getT ys p) (getT_sz32 HD2.out.2 HD.out.2))
          have HS := Lib.hid (And.intro (And.intro hR hml) (And.intro hm hst))
          have HR := Lib.hid hRR
          clear hml hm hst ho hRR hR
          generalize undT p xs = us at *
          generalize undT p ys = vs at *
          generalize getT xs p = nx at *
          generalize getT ys p = ny at *
          generalize isTop TP p = top at *
          generalize insideN TP p = IN at *
          obtain ⟨xk, xm, xt, xd⟩ := nx
          obtain ⟨yk, ym, yt, yd⟩ := ny
          simp only [Nd.c] at HG1 HG2 HPX HPY
          obtain ⟨n1, hn1⟩ : ∃ k, us.length = k := ⟨_, rfl⟩
          obtain ⟨n2, hn2⟩ : ∃ k, vs.length = k := ⟨_, rfl⟩
          have HNN := Lib.hid (And.intro hn1 hn2)
          clear hn1 hn2
          go_wp2_with fail
          refine (HP1.out wr HS.out.1.1.row.2.2).mono ?_
          rintro e w2 ⟨r1, rfl, ho1, hb1⟩
          have HB2 := Lib.hid hb1
          have HO1 := Lib.hid ho1
          obtain ⟨A1, c1, rfl, -, -, -⟩ := SlV_of_any ho1
          rw [HNN.out.1] at HO1
          simp only [HNN.out.1]
          clear hb1 ho1
          go_wp2_with fail
          refine (HP2.out w2 (HS.out.1.1.row.2.2.trans (HB2.out.mono HS.out.1.1.row.2.2.size))).mono ?_
          rintro e w3 ⟨r2, rfl, ho2, hb2⟩
          have HB3 := Lib.hid (HB2.out.trans (hb2.mono HB2.out.size))
          have HO2 := Lib.hid ho2
          have HO12 := Lib.hid (HO1.out.slv.below hb2 (Nat.le_refl _))
          obtain ⟨A2, c2, rfl, -, -, -⟩ := SlV_of_any ho2
          rw [HNN.out.2] at HO2
          simp only [HNN.out.2]
          clear hb2 ho2 HO1
          go_wp2_with fail
          refine (HIS.out w3 (HS.out.1.1.below HB3.out).ts).mono ?_
          rintro e w4 ⟨rfl, hb4⟩
          have HB4 := Lib.hid (HB3.out.trans (hb4.mono HB3.out.size))
          clear hb4
          cases top with
          | true =>
            have hIN := HTI.out rfl
            subst hIN
            by_cases hu : us = []
            · have : n1 = 0 := by rw [← HNN.out.1, hu]; rfl
              subst this
              have HFR := Lib.hid (show R = none by rw [← HR.out]; simp [hu])
              go_wp2_with fail
              go_roundw
              case rel => exact ⟨i + 1, l, by omega, by go_num, by rw [HS.out.2.2, HFR.out, HS.out.1.2]; simp, HS.out.1.1.below HB4.out⟩
              case measure => simp [intOf]; omega
            · have hn1 : (0 : Int) < n1 := by
                have h1 := HNN.out.1
                have : us.length ≠ 0 := fun h => hu (List.length_eq_zero_iff.1 h)
                omega
              by_cases hv : vs = []
              · have : n2 = 0 := by rw [← HNN.out.2, hv]; rfl
                subst this
                have HFR := Lib.hid (show R = some ⟨p, ndZ, true, []⟩ by rw [← HR.out]; simp [hu, hv])
                have HW := Lib.hid (HS.out.1.1.below HB4.out)
                have hbase : w.heap.size ≤ w4.heap.size := HW.out.row.2.2.size
                have HOW := Lib.hid (show w4.ownsRow w.heap.size 39 7 (.slice Ao m co) m (l.flatMap eSt) from by have := HW.out.row.1; rw [HS.out.2.1] at this; exact this)
                go_wp2_with (at_builtin; go_loud (refine wpList_app rfl _ _ 33 rfl w.heap.size 39 (.agg #[.string ⟨#[]⟩, .int .i64 0, .int .i64 0, .int .u32 0, .string ⟨#[]⟩, .bool false, .slice none 0 0]) 7 88 Tryz.underlying33 infoS32 rfl (by decide) (.slice Ao m co) m _ rfl (HOW.out.alloc _) w4.heap.size 1 #[.string p, .int .i64 0, .int .i64 0, .int .u32 0, .string ⟨#[]⟩, .bool true, .slice none 0 0] 39 rfl (Blk.new _ _ _) rfl (by intro u hu; simp at hu; rcases hu with rfl | rfl | rfl | rfl | rfl | rfl | rfl <;> rfl) (by omega) (by decide) (by simp; omega) _ rfl ?_; intro g cap w9 hown1 hgrow1 hat hlt1; have HA := Lib.hid (And.intro hown1 hgrow1)))
                go_roundw
                case rel => exact ⟨i + 1, l ++ [(⟨p, ndZ, true, []⟩, .slice none 0 0)], by omega, by go_num, by rw [HS.out.2.2, HFR.out, List.map_append, HS.out.1.2]; first | rfl | (rw [List.append_assoc]; rfl), HW.out.app (s := (⟨p, ndZ, true, []⟩, .slice none 0 0)) HS.out.2.1 (Lies.nil _ _ _ _) HA.out.1 HA.out.2⟩
                case measure => simp [intOf]; omega
              · have hn2 : ((n2 : Int) == 0) = false := by
                  have h1 := HNN.out.2
                  have : vs.length ≠ 0 := fun h => hv (List.length_eq_zero_iff.1 h)
                  simp
                  omega
                have hn2' : ¬ (n2 : Int) = 0 := by simpa using hn2
                have HFR := Lib.hid (show R = none by rw [← HR.out]; simp [hv])
                go_wp2_with fail
                go_roundw
                case rel => exact ⟨i + 1, l, by omega, by go_num, by rw [HS.out.2.2, HFR.out, HS.out.1.2]; simp, HS.out.1.1.below HB4.out⟩
                case measure => simp [intOf]; omega
          | false =>
            go_wp2_with fail
            refine (HIN.out w4 (HS.out.1.1.below HB4.out).ts).mono ?_
            rintro e w5 ⟨rfl, hb5⟩
            have HB5 := Lib.hid (HB4.out.trans (hb5.mono HB4.out.size))
            clear hb5
            cases IN with
            | true =>
              have HFR := Lib.hid (show R = none by rw [← HR.out]; simp)
              go_wp2_with fail
              go_roundw
              case rel => exact ⟨i + 1, l, by omega, by go_num, by rw [HS.out.2.2, HFR.out, HS.out.1.2]; simp, HS.out.1.1.below HB5.out⟩
              case measure => simp [intOf]; omega
            | false =>
              go_wp2_with fail
              refine (HG1.out w5 (HS.out.1.1.row.2.2.trans (HB5.out.mono HS.out.1.1.row.2.2.size))).mono ?_
              rintro e w6 ⟨rfl, hb6⟩
              have HB6 := Lib.hid (HB5.out.trans (hb6.mono HB5.out.size))
              clear hb6
              by_cases hx0 : xk = 0
              · have tx : (xk != 0) = false := by simpa using hx0
                have HX := Lib.hid hx0
                clear hx0
                have HFR := Lib.hid (show R = none by rw [← HR.out]; simp [HX.out])
                go_wp2_with fail
                go_roundw
                case rel => exact ⟨i + 1, l, by omega, by go_num, by rw [HS.out.2.2, HFR.out, HS.out.1.2]; simp, HS.out.1.1.below HB6.out⟩
                case measure => simp [intOf]; omega
              · have tx : (xk != 0) = true := by simpa using hx0
                have HX := Lib.hid hx0
                clear hx0
                go_wp2_with fail
                refine (HG2.out w6 (HS.out.1.1.row.2.2.trans (HB6.out.mono HS.out.1.1.row.2.2.size))).mono ?_
                rintro e w7 ⟨rfl, hb7⟩
                have HB7 := Lib.hid (HB6.out.trans (hb7.mono HB6.out.size))
                clear hb7
                by_cases hy0 : yk = 0
                · have ty : (yk == 0) = true := by simpa using hy0
                  have HY := Lib.hid hy0
                  clear hy0
                  have HFR := Lib.hid (show R = some ⟨p, ndZ, false, []⟩ by rw [← HR.out]; simp [HX.out, HY.out])
                  have HW := Lib.hid (HS.out.1.1.below HB7.out)
                  have hbase : w.heap.size ≤ w7.heap.size := HW.out.row.2.2.size
                  have HOW := Lib.hid (show w7.ownsRow w.heap.size 39 7 (.slice Ao m co) m (l.flatMap eSt) from by have := HW.out.row.1; rw [HS.out.2.1] at this; exact this)
                  go_wp2_with (at_builtin; go_loud (refine wpList_app rfl _ _ 33 rfl w.heap.size 39 (.agg #[.string ⟨#[]⟩, .int .i64 0, .int .i64 0, .int .u32 0, .string ⟨#[]⟩, .bool false, .slice none 0 0]) 7 88 Tryz.underlying33 infoS32 rfl (by decide) (.slice Ao m co) m _ rfl (HOW.out.alloc _) w7.heap.size 1 #[.string p, .int .i64 0, .int .i64 0, .int .u32 0, .string ⟨#[]⟩, .bool false, .slice none 0 0] 39 rfl (Blk.new _ _ _) rfl (by intro u hu; simp at hu; rcases hu with rfl | rfl | rfl | rfl | rfl | rfl | rfl <;> rfl) (by omega) (by decide) (by simp; omega) _ rfl ?_; intro g cap w9 hown1 hgrow1 hat hlt1; have HA := Lib.hid (And.intro hown1 hgrow1)))
                  go_roundw
                  case rel => exact ⟨i + 1, l ++ [(⟨p, ndZ, false, []⟩, .slice none 0 0)], by omega, by go_num, by rw [HS.out.2.2, HFR.out, List.map_append, HS.out.1.2]; first | rfl | (rw [List.append_assoc]; rfl), HW.out.app (s := (⟨p, ndZ, false, []⟩, .slice none 0 0)) HS.out.2.1 (Lies.nil _ _ _ _) HA.out.1 HA.out.2⟩
                  case measure => simp [intOf]; omega
                · have ty : (yk == 0) = false := by simpa using hy0
                  have HY := Lib.hid hy0
                  clear hy0
                  have HFR := Lib.hid (show R = none by rw [← HR.out]; simp [HY.out])
                  go_wp2_with fail
                  go_roundw
                  case rel => exact ⟨i + 1, l, by omega, by go_num, by rw [HS.out.2.2, HFR.out, HS.out.1.2]; simp, HS.out.1.1.below HB7.out⟩
                  case measure => simp [intOf]; omega
        · obtain rfl : i = N := by omega
          have hf : qs.reverse.take i = qs.reverse := List.take_of_length_le (by rw [List.length_reverse]; have := HN.out; omega)
          rw [hf] at hml
          obtain ⟨m, hm⟩ : ∃ m, l.length = m := ⟨_, rfl⟩
          have ho := hR.row.1
          rw [hm] at ho
          obtain ⟨Ao, co, rfl, -, -, -⟩ := SlV_of_any ho
          obtain ⟨L1, hL1⟩ : ∃ L1, qs.reverse.filterMap (awayN xs ys TP) = L1 := ⟨_, rfl⟩
          have HL1 := Lib.hid (show L1.length ≤ 1000 from by
            rw [← hL1]
            have h1 := List.length_filterMap_le (awayN xs ys TP) qs.reverse
            rw [List.length_reverse, HN.out] at h1
            omega)
          rw [hL1] at hml
          have HLE := Lib.hid hL1
          have HR1 := Lib.hid (And.intro hR hml)
          clear hf hml hR hL1 HR0 hm ho
          generalize wr = wz at *
          generalize hN0 : i = N0 at *
          clear hN0
          go_wp2_with fail
          go_loopw [11, 98] (fun ov iv wr => ∃ (i : Nat) (l : List (StepP × Value)), i ≤ N0 ∧ iv = .int .i64 i ∧ l.map Prod.fst = L1 ++ (qs.take i).filterMap (comeN xs ys TP) ∧ RoS w (.slice Ap N0 cp) qs (.slice At nt0 ct) TP ov l wr) (fun _ iv _ => N0 - (intOf iv).toNat)
          case atStart => exact ⟨0, l, Nat.zero_le _, rfl, by rw [HR1.out.2]; simp, HR1.out.1⟩
          case round =>
            obtain ⟨i, l, hi, rfl, hml, hR⟩ := hrel
            by_cases hlt : i < N0
            · obtain ⟨m, hm⟩ : ∃ m, l.length = m := ⟨_, rfl⟩
              have ho := hR.row.1
              rw [hm] at ho
              obtain ⟨Ao, co, rfl, -, -, -⟩ := SlV_of_any ho
              have hNL := HN.out
              have hmb : m ≤ 20000 := by
                have h1 := congrArg List.length hml
                rw [List.length_append] at h1; have h3 := List.length_filterMap_le (comeN xs ys TP) (qs.take i); rw [List.length_take] at h3; have h4 := HL1.out
                rw [List.length_map] at h1
                skip
                omega
              obtain ⟨A', c', hA, _, _, hso⟩ := hR.ps.slv sE_lenP
              rw [hNL] at hA
              obtain ⟨rfl, rfl⟩ : Ap = A' ∧ cp = c' := by injection hA with e1 e2 e3; exact ⟨e1, e3⟩
              clear hA
              obtain ⟨b, off, rfl, hbb, hcs⟩ := hso (by omega)
              have hkL : i < qs.length := by omega
              have hst : (qs.take (i + 1)).filterMap (comeN xs ys TP) = (qs.take i).filterMap (comeN xs ys TP) ++ ((comeN xs ys TP) qs[i]).toList := fmap_take _ _ i hkL
              have c0 := hcs i hkL 0 (by decide)
              have hpz := HQ.out _ (List.getElem_mem hkL)
              obtain ⟨p, hp⟩ : ∃ x, qs[i] = x := ⟨_, rfl⟩
              simp only [hp] at c0 hst hpz
              simp only [sE, List.getElem?_cons_zero, Nat.add_zero, Nat.mul_one] at c0
              clear hcs hso hp hkL hNL
              have hi1 : (i : Int) < N0 := by omega
              obtain ⟨R, hRR⟩ : ∃ R, comeN xs ys TP p = R := ⟨_, rfl⟩
              rw [hRR] at hst
              unfold comeN at hRR
              have HP1 := Lib.hid (fun W (hb : Below w.heap.size w W) => HX1.out W hb p hpz)
              have HP2 := Lib.hid (fun W (hb : Below w.heap.size w W) => HX2.out W hb p hpz)
              have HG1 := Lib.hid (fun W (hb : Below w.heap.size w W) => HGE.out.1 W hb p)
              have HG2 := Lib.hid (fun W (hb : Below w.heap.size w W) => HGE.out.2 W hb p)
              have HTI := Lib.hid (fun (h : isTop TP p = true) => inside_top h)
              have HIS := Lib.hid (fun W (ht : Lies W 9 1 sE (.slice At nt0 ct) TP) => is32_any W p _ TP (ht.slv sE_lenP))
              have HIN := Lib.hid (fun W (ht : Lies W 9 1 sE (.slice At nt0 ct) TP) => inside32_any W p _ TP (ht.slv sE_lenP) hpz)
              have HSS := Lib.hid (fun W u v => ref16Same_any W u v (undT p xs) (undT p ys))
              have HUD := Lib.hid (And.intro (undT_data (p := p) HD.out.1) (undT_data (p := p) HD.out.2))
              have HPX := Lib.hid (fun W => refPrint_any W (getT xs p) (getT_sz32 HD2.out.1 HD.out.1))
              have HPY := Lib.hid (fun W => refPrint_any W (getT ys p) (getT_sz32 HD2.out.2 HD.out.2))
              have HS := Lib.hid (And.intro (And.intro hR hml) (And.intro hm hst))
              have HR := Lib.hid hRR
              clear hml hm hst ho hRR hR
              generalize undT p xs = us at *
              generalize undT p ys = vs at *
              generalize getT xs p = nx at *
              generalize getT ys p = ny at *
              generalize isTop TP p = top at *
              generalize insideN TP p = IN at *
              obtain ⟨xk, xm, xt, xd⟩ := nx
              obtain ⟨yk, ym, yt, yd⟩ := ny
              simp only [Nd.c] at HG1 HG2 HPX HPY
              obtain ⟨n1, hn1⟩ : ∃ k, us.length = k := ⟨_, rfl⟩
              obtain ⟨n2, hn2⟩ : ∃ k, vs.length = k := ⟨_, rfl⟩
              have HNN := Lib.hid (And.intro hn1 hn2)
              clear hn1 hn2
              go_wp2_with fail
              refine (HP1.out wr HS.out.1.1.row.2.2).mono ?_
              rintro e w2 ⟨r1, rfl, ho1, hb1⟩
              have HB2 := Lib.hid hb1
              have HO1 := Lib.hid ho1
              obtain ⟨A1, c1, rfl, -, -, -⟩ := SlV_of_any ho1
              rw [HNN.out.1] at HO1
              simp only [HNN.out.1]
              clear hb1 ho1
              go_wp2_with fail
              refine (HP2.out w2 (HS.out.1.1.row.2.2.trans (HB2.out.mono HS.out.1.1.row.2.2.size))).mono ?_
              rintro e w3 ⟨r2, rfl, ho2, hb2⟩
              have HB3 := Lib.hid (HB2.out.trans (hb2.mono HB2.out.size))
              have HO2 := Lib.hid ho2
              have HO12 := Lib.hid (HO1.out.slv.below hb2 (Nat.le_refl _))
              obtain ⟨A2, c2, rfl, -, -, -⟩ := SlV_of_any ho2
              rw [HNN.out.2] at HO2
              simp only [HNN.out.2]
              clear hb2 ho2 HO1
              go_wp2_with fail
              refine (HG2.out w3 (HS.out.1.1.row.2.2.trans (HB3.out.mono HS.out.1.1.row.2.2.size))).mono ?_
              rintro e w4 ⟨rfl, hb4⟩
              obtain ⟨V, hV⟩ : ∃ V, w4.alloc (.cells #[.int .i64 yk, .int .i64 ym, .int .u32 yt, .string yd] 37) = V := ⟨_, rfl⟩
              obtain ⟨nb, hnb⟩ : ∃ n, w4.heap.size = n := ⟨_, rfl⟩
              have hN : Blk V nb 37 #[.int .i64 yk, .int .i64 ym, .int .u32 yt, .string yd] := by rw [← hV, ← hnb]; exact Blk.new _ _ _
              have hb34 : Below w3.heap.size w3 V := hb4.trans (by rw [← hV]; exact (Below.refl _ w4).alloc hb4.size _)
              have HB4 := Lib.hid (HB3.out.trans (hb34.mono HB3.out.size))
              have HOV := Lib.hid (And.intro (HO12.out.below hb34 (Nat.le_refl _)) (OwnIt.below HO2.out hb34))
              have HN0 := Lib.hid hN
              clear hb4 hN hb34 HO12 HO2
              go_wp2_with fail
              clear hV hnb
              refine (HIS.out V (HS.out.1.1.below HB4.out).ts).mono ?_
              rintro e w5 ⟨rfl, hb5⟩
              have HB5 := Lib.hid (HB4.out.trans (hb5.mono HB4.out.size))
              have HN5 := Lib.hid (HN0.out.below hb5 HN0.out.lt)
              have HO5 := Lib.hid (And.intro (HOV.out.1.below hb5 (Nat.le_refl _)) (OwnIt.below HOV.out.2 hb5))
              clear hb5 HN0 HOV
              cases top with
              | true =>
                have hIN := HTI.out rfl
                subst hIN
                by_cases hv : vs = []
                · have : n2 = 0 := by rw [← HNN.out.2, hv]; rfl
                  subst this
                  have HFR := Lib.hid (show R = none by rw [← HR.out]; simp [hv])
                  go_wp2_with fail
                  go_roundw
                  case rel => exact ⟨i + 1, l, by omega, by go_num, by rw [HS.out.2.2, HFR.out, HS.out.1.2]; simp, HS.out.1.1.below HB5.out⟩
                  case measure => simp [intOf]; omega
                · have hn2 : (0 : Int) < n2 := by
                    have h1 := HNN.out.2
                    have : vs.length ≠ 0 := fun h => hv (List.length_eq_zero_iff.1 h)
                    omega
                  have HSM := Lib.hid (HSS.out w5 _ _ HO5.out.1 HO5.out.2.slv HUD.out.1 HUD.out.2)
                  try simp only [HNN.out.1, HNN.out.2] at HSM
                  obtain ⟨sv, hsv⟩ : ∃ s, sameN us vs = s := ⟨_, rfl⟩
                  simp only [hsv] at HSM
                  have HSV := Lib.hid hsv
                  have HV := Lib.hid hv
                  clear hsv hv
                  go_wp2_with fail
                  refine HSM.out.mono ?_
                  rintro e w6 ⟨rfl, hb6⟩
                  have HB6 := Lib.hid (HB5.out.trans (hb6.mono HB5.out.size))
                  have HO6 := Lib.hid (OwnIt.below HO5.out.2 hb6)
                  clear hb6 HSM
                  cases sv with
                  | true =>
                    have HFR := Lib.hid (show R = none by rw [← HR.out]; simp [HSV.out])
                    go_wp2_with fail
                    go_roundw
                    case rel => exact ⟨i + 1, l, by omega, by go_num, by rw [HS.out.2.2, HFR.out, HS.out.1.2]; simp, HS.out.1.1.below HB6.out⟩
                    case measure => simp [intOf]; omega
                  | false =>
                    have HIT := Lib.hid (Lies.of_own HO6.out eCSN_len (by decide))
                    try simp only [HNN.out.2] at HIT
                    have HFR := Lib.hid (show R = some ⟨p, ndZ, true, vs⟩ by rw [← HR.out]; simp [HSV.out, HV.out])
                    have HW := Lib.hid (HS.out.1.1.below HB6.out)
                    have hbase : w.heap.size ≤ w6.heap.size := HW.out.row.2.2.size
                    have HOW := Lib.hid (show w6.ownsRow w.heap.size 39 7 (.slice Ao m co) m (l.flatMap eSt) from by have := HW.out.row.1; rw [HS.out.2.1] at this; exact this)
                    go_wp2_with (at_builtin; go_loud (refine wpList_app rfl _ _ 33 rfl w.heap.size 39 (.agg #[.string ⟨#[]⟩, .int .i64 0, .int .i64 0, .int .u32 0, .string ⟨#[]⟩, .bool false, .slice none 0 0]) 7 88 Tryz.underlying33 infoS32 rfl (by decide) (.slice Ao m co) m _ rfl (HOW.out.alloc _) w6.heap.size 1 #[.string p, .int .i64 0, .int .i64 0, .int .u32 0, .string ⟨#[]⟩, .bool true, .slice A2 n2 c2] 39 rfl (Blk.new _ _ _) rfl (by intro u hu; simp at hu; rcases hu with rfl | rfl | rfl | rfl | rfl | rfl | rfl <;> rfl) (by omega) (by decide) (by simp; omega) _ rfl ?_; intro g cap w9 hown1 hgrow1 hat hlt1; have HA := Lib.hid (And.intro hown1 hgrow1)))
                    go_roundw
                    case rel => exact ⟨i + 1, l ++ [(⟨p, ndZ, true, vs⟩, .slice A2 n2 c2)], by omega, by go_num, by rw [HS.out.2.2, HFR.out, List.map_append, HS.out.1.2]; first | rfl | (rw [List.append_assoc]; rfl), HW.out.app (s := (⟨p, ndZ, true, vs⟩, .slice A2 n2 c2)) HS.out.2.1 HIT.out HA.out.1 HA.out.2⟩
                    case measure => simp [intOf]; omega
              | false =>
                clear HSS HUD HO5
                go_upto_region 28 with fail
                have k1 : ∀ mm : Held (Aft w5), (HeldW mm).cell? ⟨nb, 0, none⟩ = some (.int .i64 yk) := fun mm => (Aft.cell mm HN5.out.lt).trans (HN5.out.cell 0)
                have k2 : ∀ mm : Held (Aft w5), (HeldW mm).cell? ⟨nb, 1, none⟩ = some (.int .i64 ym) := fun mm => (Aft.cell mm HN5.out.lt).trans (HN5.out.cell 1)
                have k3 : ∀ mm : Held (Aft w5), (HeldW mm).cell? ⟨nb, 2, none⟩ = some (.int .u32 yt) := fun mm => (Aft.cell mm HN5.out.lt).trans (HN5.out.cell 2)
                have k4 : ∀ mm : Held (Aft w5), (HeldW mm).cell? ⟨nb, 3, none⟩ = some (.string yd) := fun mm => (Aft.cell mm HN5.out.lt).trans (HN5.out.cell 3)
                have HIM := Lib.hid (fun mm : Held (Aft w5) => HIN.out (HeldW mm) ((HS.out.1.1.below HB5.out).below (HeldW_spec mm : Below w5.heap.size w5 (HeldW mm))).ts)
                have HGM := Lib.hid (fun mm : Held (Aft w5) => HG1.out (HeldW mm) ((HS.out.1.1.below HB5.out).below (HeldW_spec mm : Below w5.heap.size w5 (HeldW mm))).row.2.2)
                have HXM := Lib.hid (fun mm : Held (Aft w5) => HPX.out (HeldW mm))
                have HYM := Lib.hid (fun mm : Held (Aft w5) => HPY.out (HeldW mm))
                have hne := fun W => ne_print (printN ⟨xk, xm, xt, xd⟩) (printN ⟨yk, ym, yt, yd⟩) W
                obtain ⟨sm, hsm⟩ : ∃ s, decide (printN ⟨xk, xm, xt, xd⟩ = printN ⟨yk, ym, yt, yd⟩) = s := ⟨_, rfl⟩
                simp only [hsm] at hne
                have HSMM := Lib.hid hsm
                clear hsm
                obtain ⟨PX, hPX⟩ : ∃ P, printN ⟨xk, xm, xt, xd⟩ = P := ⟨_, rfl⟩
                obtain ⟨PY, hPY⟩ : ∃ P, printN ⟨yk, ym, yt, yd⟩ = P := ⟨_, rfl⟩
                simp only [hPX] at HXM hne
                simp only [hPY] at HYM hne
                clear hPX hPY
                obtain ⟨pa, pb, pc, pd, pe⟩ := PX
                obtain ⟨qa, qb, qc, qd, qe⟩ := PY
                simp only [Pr.c] at hne HXM HYM
                haveI := Aft.some w5
                cases IN with
                | true =>
                  refine wp_region_class (Aft w5) (by kernel_rfl) (by kernel_rfl) (Aft.start w5) ?_
                  repeat (go_big_quiet_step (with_reducible exact held_below Aft.keep (HIM.out _)))
                  refine wpQuiet_nil ?_
                  rintro _ ⟨nn, rfl⟩
                  have HB6 := Lib.hid (HB5.out.trans ((HeldW_spec nn : Below w5.heap.size w5 (HeldW nn)).mono HB5.out.size))
                  clear k1 k2 k3 k4
                  have HFR := Lib.hid (show R = none by rw [← HR.out]; simp)
                  go_wp2_with fail
                  go_roundw
                  case rel => exact ⟨i + 1, l, by omega, by go_num, by rw [HS.out.2.2, HFR.out, HS.out.1.2]; simp, HS.out.1.1.below HB6.out⟩
                  case measure => simp [intOf]; omega
                | false =>
                  by_cases hy0 : yk = 0
                  · have ty : (yk != 0) = false := by simpa using hy0
                    have HY := Lib.hid hy0
                    clear hy0
                    refine wp_region_class (Aft w5) (by kernel_rfl) (by kernel_rfl) (Aft.start w5) ?_
                    repeat (go_big_quiet_step (with_reducible exact held_below Aft.keep (HIM.out _)))
                    refine wpQuiet_nil ?_
                    rintro _ ⟨nn, rfl⟩
                    have HB6 := Lib.hid (HB5.out.trans ((HeldW_spec nn : Below w5.heap.size w5 (HeldW nn)).mono HB5.out.size))
                    clear k1 k2 k3 k4
                    have HFR := Lib.hid (show R = none by rw [← HR.out]; simp [HY.out])
                    go_wp2_with fail
                    go_roundw
                    case rel => exact ⟨i + 1, l, by omega, by go_num, by rw [HS.out.2.2, HFR.out, HS.out.1.2]; simp, HS.out.1.1.below HB6.out⟩
                    case measure => simp [intOf]; omega
                  · have ty : (yk != 0) = true := by simpa using hy0
                    have HY := Lib.hid hy0
                    clear hy0
                    refine wp_region_class (Aft w5) (by kernel_rfl) (by kernel_rfl) (Aft.start w5) ?_
                    repeat (go_big_quiet_step (first | with_reducible exact held_below Aft.keep (HIM.out _) | with_reducible exact held_below Aft.keep (HGM.out _) | with_reducible exact held_below Aft.keep (HXM.out _) | with_reducible exact held_below Aft.keep (HYM.out _)))
                    refine wpQuiet_nil ?_
                    rintro _ ⟨nn, rfl⟩
                    obtain ⟨w6, hw6⟩ : ∃ w6, HeldW nn = w6 := ⟨_, rfl⟩
                    have HB6 := Lib.hid (show Below wr.heap.size wr w6 from by rw [← hw6]; exact HB5.out.trans ((HeldW_spec nn : Below w5.heap.size w5 (HeldW nn)).mono HB5.out.size))
                    have HN6 := Lib.hid (show Blk w6 nb 37 #[.int .i64 yk, .int .i64 ym, .int .u32 yt, .string yd] from by rw [← hw6]; exact HN5.out.below (HeldW_spec nn : Below w5.heap.size w5 (HeldW nn)) HN5.out.lt)
                    rw [hw6]
                    clear k1 k2 k3 k4 HIM HGM HXM HYM hw6 this
                    have n0 := HN6.out.cell 0
                    have n1' := HN6.out.cell 1
                    have n2' := HN6.out.cell 2
                    have n3' := HN6.out.cell 3
                    simp only [List.getElem?_toArray, List.getElem?_cons_succ, List.getElem?_cons_zero] at n0 n1' n2' n3'
                    cases sm with
                    | true =>
                      have HFR := Lib.hid (show R = none by rw [← HR.out]; have := HSMM.out; simp at this; simp [this])
                      go_wp2_with fail
                      go_roundw
                      case rel => exact ⟨i + 1, l, by omega, by go_num, by rw [HS.out.2.2, HFR.out, HS.out.1.2]; simp, HS.out.1.1.below HB6.out⟩
                      case measure => simp [intOf]; omega
                    | false =>
                      have HFR := Lib.hid (show R = some ⟨p, ⟨yk, ym, yt, yd⟩, false, []⟩ by rw [← HR.out]; have := HSMM.out; simp at this; simp [this, HY.out])
                      have HW := Lib.hid (HS.out.1.1.below HB6.out)
                      have hbase : w.heap.size ≤ w6.heap.size := HW.out.row.2.2.size
                      have HOW := Lib.hid (show w6.ownsRow w.heap.size 39 7 (.slice Ao m co) m (l.flatMap eSt) from by have := HW.out.row.1; rw [HS.out.2.1] at this; exact this)
                      go_wp2_with (at_builtin; go_loud (refine wpList_app rfl _ _ 33 rfl w.heap.size 39 (.agg #[.string ⟨#[]⟩, .int .i64 0, .int .i64 0, .int .u32 0, .string ⟨#[]⟩, .bool false, .slice none 0 0]) 7 88 Tryz.underlying33 infoS32 rfl (by decide) (.slice Ao m co) m _ rfl (HOW.out.alloc _) w6.heap.size 1 #[.string p, .int .i64 yk, .int .i64 ym, .int .u32 yt, .string yd, .bool false, .slice none 0 0] 39 rfl (Blk.new _ _ _) rfl (by intro u hu; simp at hu; rcases hu with rfl | rfl | rfl | rfl | rfl | rfl | rfl <;> rfl) (by omega) (by decide) (by simp; omega) _ rfl ?_; intro g cap w9 hown1 hgrow1 hat hlt1; have HA := Lib.hid (And.intro hown1 hgrow1)))
                      go_roundw
                      case rel => exact ⟨i + 1, l ++ [(⟨p, ⟨yk, ym, yt, yd⟩, false, []⟩, .slice none 0 0)], by omega, by go_num, by rw [HS.out.2.2, HFR.out, List.map_append, HS.out.1.2]; first | rfl | (rw [List.append_assoc]; rfl), HW.out.app (s := (⟨p, ⟨yk, ym, yt, yd⟩, false, []⟩, .slice none 0 0)) HS.out.2.1 (Lies.nil _ _ _ _) HA.out.1 HA.out.2⟩
                      case measure => simp [intOf]; omega
            · obtain rfl : i = N0 := by omega
              have hf : qs.take i = qs := List.take_of_length_le (by have := HN.out; omega)
              rw [hf] at hml
              obtain ⟨m, hm⟩ : ∃ m, l.length = m := ⟨_, rfl⟩
              have ho := hR.row.1
              rw [hm] at ho
              obtain ⟨Ao, co, rfl, -, -, -⟩ := SlV_of_any ho
              have HF := Lib.hid (And.intro hR.row (show l.map Prod.fst = planN xs ys TP by rw [hml, ← HLE.out, HQE.out]; rfl))
              clear hf hml hR hm ho
              go_wp2_with fail
              go_ret
              exact ⟨_, l, rfl, HF.out.1, HF.out.2⟩
end Go.Proofs.YtmpgmgjokliceaaGreatDoor
