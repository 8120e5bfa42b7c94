/- Several texts, joined for the limit of sixty files; each one opens with its own comment. -/
import Derived.Test.YtnpehjgnplaabaaGreatDoorJoin30
/- Several texts, joined for the limit of sixty files; each one opens with its own comment. -/
/- recon.Each for a caller that owns rows of texts: an iterator over what is decided of each path (XReconEach, with XKeepG). -/
set_option linter.unusedVariables false
set_option linter.unusedSimpArgs false
namespace Go.Proofs.YtnpehjgnplaabaaGreatDoor
open Go Go.RowKit Go.Shelf
open Sw
attribute [local go_sem] Oper.semAt_some
/-- what the iterator wants kept -/
def KeepOkG (ts : List TypeId) : Prop := ¬ 24 ∈ ts ∧ ¬ 29 ∈ ts ∧ ¬ 110 ∈ ts ∧ ¬ 139 ∈ ts ∧ ¬ 146 ∈ ts
theorem EachAt.keptG {W W' : World} {gB gl gr bt bm bt2 bm2 B0 : Nat} {u1 u2 : Value} {xs ys : List NE} {ts : List TypeId} (h : EachAt W gB gl gr bt bm bt2 bm2 u1 u2 xs ys) (hk : KeepR B0 ts W W') (ho : KeepOkG ts) : EachAt W' gB gl gr bt bm bt2 bm2 u1 u2 xs ys :=
  ⟨hk.row _ _ _ h.b0 ho.1, hk.row _ _ _ h.b1 ho.2.1, hk.row _ _ _ h.b2 ho.2.1, h.t1.keptR hk ho.2.2.1 ho.2.2.2.1 ho.2.2.2.2, h.t2.keptR hk ho.2.2.1 ho.2.2.2.1 ho.2.2.2.2⟩
set_option maxRecDepth 100000 in
set_option maxHeartbeats 8000000 in
theorem each_tellsG (n : Nat) (hn : 2 ≤ n) (ts : List TypeId) (hts : KeepOkG ts) (B0 : Nat) (w : World) (gs : Nat) (hgs : gs < w.heap.size) (hcap : ∀ g, Cap w gs g → g < w.heap.size) (hB0 : B0 ≤ w.heap.size) (gB gl gr bt bm bt2 bm2 : Nat) (u1 u2 : Value) (l1 l2 : List MkE) (xs ys : List NE) (hE : EachAt w gB gl gr bt bm bt2 bm2 u1 u2 xs ys)
    (h1 : ∀ W, Below B0 w W → SlV W 6 eCM u1 l1) (h2 : ∀ W, Below B0 w W → SlV W 6 eCM u2 l2) (hl1 : l1.length ≤ 1000) (hl2 : l2.length ≤ 1000) (hp1 : ∀ m ∈ l1, m.1.size ≤ 90000) (hp2 : ∀ m ∈ l2, m.1.size ≤ 90000)
    (hxl : xs.length ≤ 1000) (hyl : ys.length ≤ 1000) (hxd : ∀ e ∈ xs, e.2.data.size ≤ maxLen) (hyd : ∀ e ∈ ys, e.2.data.size ≤ maxLen) :
    SeqTells (fun _ => False) Fence.wide n Tryz.prog 91 #[.pointer (some ⟨gB, 0, none⟩), .pointer (some ⟨gl, 0, none⟩), .pointer (some ⟨gr, 0, none⟩)] (fun s : StR => #[.agg (eCR s).toArray]) (KeepG B0 ts 9 gs) (fun zs => zs = allR (l1 ++ l2) xs ys) (fun pre => pre <+: allR (l1 ++ l2) xs ys) (fun pre => pre <+: allR (l1 ++ l2) xs ys) w := fun l J Jx W hW hJ hJx hY hJ0 => by
  have hE0 := hE.below hW
  have hbW : Below B0 w W := hW.mono hB0
  have hgsW : gs < W.heap.size := Nat.lt_of_lt_of_le hgs hW.size
  have hcapW : ∀ g, Cap W gs g → g < W.heap.size := fun g hc => Nat.lt_of_lt_of_le (hcap g (hc.same (hW.block gs hgs))) hW.size
  obtain ⟨A1, k1, rfl, _, _, _⟩ := h1 w (Below.refl _ w)
  obtain ⟨A2, k2, rfl, _, _, _⟩ := h2 w (Below.refl _ w)
  have hba : Below W.heap.size W (W.alloc (.cells #[.pointer (some ⟨bt, 0, none⟩), .pointer (some ⟨bt2, 0, none⟩)] 29)) := (Below.refl _ W).alloc (Nat.le_refl _) _
  have hxp : ∀ e ∈ xs, e.1.size ≤ 90000 := fun e he => hE.t1.ok (n := e.2) he
  have hyp : ∀ e ∈ ys, e.1.size ≤ 90000 := fun e he => hE.t2.ok (n := e.2) he
  have hsz : B0 ≤ W.heap.size := Nat.le_trans hB0 hW.size
  obtain ⟨m1, hm1⟩ : ∃ n, l1.length = n := ⟨_, rfl⟩
  obtain ⟨m2, hm2⟩ : ∃ n, l2.length = n := ⟨_, rfl⟩
  have HP := Lib.hid (paths2_any (W.alloc (.cells #[.pointer (some ⟨bt, 0, none⟩), .pointer (some ⟨bt2, 0, none⟩)] 29)) _ _ l1 l2 W.heap.size _ bt bm bt2 bm2 xs ys (h1 _ (hbW.trans (hba.mono hsz))) (h2 _ (hbW.trans (hba.mono hsz))) hl1 hl2 hp1 hp2 (Blk.new W _ _) (hE0.t1.below hba) (hE0.t2.below hba) hxl hxp hyl hyp)
  have hps : ∀ p ∈ pathsS ((l1 ++ l2).map Prod.fst ++ (xs.map Prod.fst ++ ys.map Prod.fst)), p.size ≤ 90000 := fun p hp => by
    rw [pathsS_mem, List.mem_append, List.mem_append] at hp
    rcases hp with hp | hp | hp
    · obtain ⟨m, hm, rfl⟩ := List.mem_map.1 hp
      exact (List.mem_append.1 hm).elim (hp1 m) (hp2 m)
    · obtain ⟨e, he, rfl⟩ := List.mem_map.1 hp
      exact hxp e he
    · obtain ⟨e, he, rfl⟩ := List.mem_map.1 hp
      exact hyp e he
  have hpl : (pathsS ((l1 ++ l2).map Prod.fst ++ (xs.map Prod.fst ++ ys.map Prod.fst))).length ≤ 6000 := Nat.le_trans (pathsS_len _) (by simp only [List.length_append, List.length_map]; omega)
  have HA := Lib.hid (show allR (l1 ++ l2) xs ys = (pathsS ((l1 ++ l2).map Prod.fst ++ (xs.map Prod.fst ++ ys.map Prod.fst))).map (stepR (l1 ++ l2) xs ys) from by unfold allR; rw [List.append_assoc])
  have HX := Lib.hid (And.intro hxd hyd)
  have HS := Lib.hid (And.intro h1 h2)
  have HJ := Lib.hid (And.intro hJ hY)
  have H0 := Lib.hid (And.intro hE0 (And.intro hbW hba))
  generalize allR (l1 ++ l2) xs ys = ans at *
  generalize pathsS ((l1 ++ l2).map Prod.fst ++ (xs.map Prod.fst ++ ys.map Prod.fst)) = ps at *
  have HPS := Lib.hid hps
  have q0 := hE0.b0.cell 0
  have q1 := hE0.b0.cell 1
  have q2 := hE0.b1.cell 0
  have q3 := hE0.b2.cell 0
  simp only [List.getElem?_toArray, List.getElem?_cons_succ, List.getElem?_cons_zero] at q0 q1 q2 q3
  have HJ0 := Lib.hid hJ0
  have hup1 := hE.t1.map.up
  have hup2 := hE.t2.map.up
  have HUP := Lib.hid (And.intro hup1 hup2)
  clear hE hE0 hbW hba hxp hyp hps hp1 hp2 hxd hyd h1 h2 hJ hJx hY hJ0 hW hup1 hup2
  rw [hm1, hm2] at *
  refine callsIn_of_wp Tryz.func91 rfl trivial ?_ rfl
  simp only [Tryz.ntmps91, List.size_toArray, List.length_cons, List.length_nil, Nat.reduceAdd, Nat.reduceSub, Array.replicate_succ, Array.replicate_zero, List.push_toArray, List.append_toArray, List.nil_append, List.cons_append]
  refine wpIn_wide.2 ?_
  go_wp2_with fail
  refine HP.out.mono ?_
  rintro e w1 ⟨u, rfl, ho, hb1⟩
  rw [← flat_sR] at ho
  obtain ⟨A3, k3, rfl, hk3, -, -⟩ := SlV_of_any ho
  have hbW1 : Below W.heap.size W w1 := H0.out.2.2.trans (hb1.mono H0.out.2.2.size)
  have H1 := Lib.hid (And.intro ho (And.intro (KeepG.below (B0 := B0) (ts := ts) (ty := 9) (gs := gs) hbW1 hsz hgsW) (HJ.out.1 _ W w1 none HJ0.out (grown_below (row := none) hbW1) (fun r h => by cases h))))
  have HCP := Lib.hid (And.intro hgsW (fun g (hg : W.heap.size ≤ g) (hc : Cap w1 gs g) => (absurd (hcapW g (hc.same (hbW1.block gs hgsW))) (by omega) : False)))
  clear hcap hcapW hgs hgsW
  obtain ⟨n0, hn0⟩ : ∃ n, ps.length = n := ⟨_, rfl⟩
  rw [hn0] at H1 hpl hk3
  rw [hn0]
  have HN := Lib.hid hn0
  clear ho hb1 hbW1 hn0 HP HJ0 q0 q1 q2 q3
  go_wp2_with fail
  go_loopw [16] (fun iv wr => ∃ i : Nat, iv = .int .i64 i ∧ i ≤ n0 ∧ J (ans.take i) wr ∧ KeepG B0 ts 9 gs w1 wr) (fun iv _ => n0 - (intOf iv).toNat)
  case atStart => exact ⟨0, rfl, Nat.zero_le _, H1.out.2.2, KeepG.refl _ _ _ _ _⟩
  case round =>
    obtain ⟨i, rfl, hi, hJr, hK⟩ := hrel
    by_cases hlt : i < n0
    · have hiL : i < ps.length := by have := HN.out; omega
      have hKW : KeepG B0 ts 9 gs W wr := H1.out.2.1.trans hK
      have hEr := H0.out.1.keptG hKW.keep hts
      have hor := own_keptG H1.out.1 hK (fun g hg hc => HCP.out.2 g (by have := (H1.out.1.lt g hg).1; simp only [World.size_alloc] at this; omega) hc)
      rw [← HN.out] at hor
      obtain ⟨A', c', hA', _, _, hso⟩ := SlV.of_own (l := ps) hor (fun _ => rfl) (by decide)
      rw [HN.out] at hA'
      obtain ⟨rfl, rfl⟩ : A3 = A' ∧ k3 = c' := by injection hA' with e1 e2 e3; exact ⟨e1, e3⟩
      clear hA'
      obtain ⟨b, off, rfl, hbb, hcs⟩ := hso (by omega)
      have c0 := hcs i hiL 0 (by omega)
      simp only [sE, List.getElem?_cons_zero, Nat.add_zero, Nat.mul_one] at c0
      clear hcs hso hor
      have hi1 : (i : Int) < n0 := by omega
      have hq := HPS.out _ (List.getElem_mem hiL)
      have hst : ans.take (i + 1) = ans.take i ++ [stepR (l1 ++ l2) xs ys ps[i]] := by
        rw [HA.out, List.take_succ_eq_append_getElem (by rw [List.length_map]; exact hiL), List.getElem_map]
      obtain ⟨q, hx⟩ : ∃ x, ps[i] = x := ⟨_, rfl⟩
      simp only [hx] at c0 hq hst
      clear hx
      have hszr : B0 ≤ wr.heap.size := Nat.le_trans hsz hKW.keep.low.size
      have hlow := H0.out.2.1.trans hKW.keep.low
      have hff := fun W' (hb : Below wr.heap.size wr W') => findM_any W' _ _ l1 l2 q (HS.out.1 W' (hlow.trans (hb.mono hszr))) (HS.out.2 W' (hlow.trans (hb.mono hszr))) (by omega) (by omega)
      have hg1 := fun W' (hT : TreeAt W' bt bm xs) => treeGet_any W' bt bm xs q hT (by omega) hq
      have hg2 := fun W' (hT : TreeAt W' bt2 bm2 ys) => treeGet_any W' bt2 bm2 ys q hT (by omega) hq
      have hs1 := getT_size (p := q) HUP.out.1 HX.out.1
      have hs2 := getT_size (p := q) HUP.out.2 HX.out.2
      have hsd : stepR (l1 ++ l2) xs ys q = ⟨q, (decideN ((findM (l1 ++ l2) q).getD ⟨0, 0, 0, 0, 0⟩) (findM (l1 ++ l2) q).isSome (getT xs q) (getT ys q)).1, (decideN ((findM (l1 ++ l2) q).getD ⟨0, 0, 0, 0, 0⟩) (findM (l1 ++ l2) q).isSome (getT xs q) (getT ys q)).2, getT xs q, getT ys q⟩ := rfl
      have hdd := fun W' => decide_any W' ((findM (l1 ++ l2) q).getD ⟨0, 0, 0, 0, 0⟩) (findM (l1 ++ l2) q).isSome (getT xs q) (getT ys q) hs1 hs2
      generalize stepR (l1 ++ l2) xs ys q = st at *
      generalize (findM (l1 ++ l2) q).getD ⟨0, 0, 0, 0, 0⟩ = pr at *
      generalize (findM (l1 ++ l2) q).isSome = had at *
      generalize getT xs q = nd1 at *
      generalize getT ys q = nd2 at *
      obtain ⟨vd, hvd⟩ : ∃ v, (decideN pr had nd1 nd2).1 = v := ⟨_, rfl⟩
      obtain ⟨cl, hcl⟩ : ∃ v, (decideN pr had nd1 nd2).2 = v := ⟨_, rfl⟩
      rw [hvd, hcl] at hsd
      simp only [hvd, hcl] at hdd
      clear hvd hcl hs1 hs2
      obtain ⟨fa, fb, fc, fd, fs⟩ := pr
      obtain ⟨ak, am, at', ad⟩ := nd1
      obtain ⟨ck, cm, ct, cd⟩ := nd2
      simp only [Pr.c, Nd.c] at hff hg1 hg2 hdd
      have HFF := Lib.hid hff
      have HG1 := Lib.hid hg1
      have HG2 := Lib.hid hg2
      have HDD := Lib.hid hdd
      subst hsd
      have HST := Lib.hid hst
      have HR := Lib.hid (And.intro hEr (And.intro hJr hK))
      have x2 := hEr.b1.cell 0
      have x3 := hEr.b2.cell 0
      simp only [List.getElem?_toArray, List.getElem?_cons_succ, List.getElem?_cons_zero] at x2 x3
      clear hff hg1 hg2 hdd hst hEr hJr hK hKW hlow
      go_upto_region 3 with fail
      go_cut [7] from 20 to 27 (fun s7 wx => ∃ g, s7 = .pointer (some ⟨g, 0, none⟩) ∧ wr.heap.size ≤ g ∧ Blk wx g 119 #[.string q, .int .i64 0, .int .i64 0, .int .i64 ak, .int .i64 am, .int .u32 at', .string ad, .int .i64 ck, .int .i64 cm, .int .u32 ct, .string cd] ∧ Below wr.heap.size wr wx)
      case first =>
        have HC0 := Lib.hid (Aft.start wr)
        have k2 : ∀ m : Held (Aft wr), (HeldW m).cell? ⟨gl, 0, none⟩ = some (.pointer (some ⟨bt, 0, none⟩)) := fun m => (Aft.cell m HR.out.1.b1.lt).trans x2
        have k3 : ∀ m : Held (Aft wr), (HeldW m).cell? ⟨gr, 0, none⟩ = some (.pointer (some ⟨bt2, 0, none⟩)) := fun m => (Aft.cell m HR.out.1.b2.lt).trans x3
        refine wp_region_mixT (Aft wr) (.first 0 (.first 1 (.first 2 (.first 4 (.first 5 (.two 3 (.two 6 (.first 7 (.forced 8 (.forced 9 .nil))) 8 (.forced 6 (.first 7 (.forced 9 .nil)))) 8 (.forced 3 (.forced 6 (.first 7 (.forced 9 .nil)))))))))) (by kernel_rfl) (by kernel_rfl) ?_
        simp only [pickT, List.getElem?_toArray, List.getElem?_cons_succ, List.getElem?_cons_zero]
        repeat (apply mixT_first; apply Exists.intro; refine ⟨fun m => ?_, HC0.out, ?_⟩; · (go_big_quiet_step (fail); exact wpQuiet_nil rfl))
        have HT := Lib.hid (fun W' (h : Aft wr W') => HR.out.1.below h)
        clear x2 x3
        refine mixT_two HC0.out ?_ ?_
        · go_wp2_with fail
          refine (HG1.out _ (HT.out _ HC0.out).t1).mono ?_
          rintro e w2 ⟨rfl, hb2⟩
          have H2 := Lib.hid (show Aft wr w2 from Aft.keep _ _ HC0.out hb2)
          clear hb2
          go_wp2_with fail
          show mixT _ _ _ _ _ _ _
          refine mixT_two H2.out ?_ ?_
          · go_wp2_with fail
            refine (HG2.out _ (HT.out _ H2.out).t2).mono ?_
            rintro e w3 ⟨rfl, hb3⟩
            have H3 := Lib.hid (show Aft wr w3 from Aft.keep _ _ H2.out hb3)
            clear hb3
            go_wp2_with fail
            show mixT _ _ _ _ _ _ _
            apply mixT_first; apply Exists.intro; refine ⟨fun m => ?_, H3.out, ?_⟩; · (go_big_quiet_step (fail); exact wpQuiet_nil rfl)
            refine mixT_forced H3.out ?_
            go_wp2_with fail
            show mixT _ _ _ _ _ _ _
            refine mixT_forced (H3.out.alloc H3.out.size _) ?_
            go_wp2_with fail
            show mixT _ _ _ _ _ _ _
            refine mixT_nil (H3.out.alloc H3.out.size _) ?_
            go_wp2_with fail
            go_meet
            exact ⟨w3.heap.size, rfl, H3.out.size, Blk.new _ _ _, H3.out.alloc H3.out.size _⟩
          · go_wp2_with fail
            show mixT _ _ _ _ _ _ _
            obtain ⟨V0, hV0⟩ : ∃ V0, w2.alloc (.cells #[.string ⟨#[]⟩, .int .i64 0, .int .i64 0, .int .i64 0, .int .i64 0, .int .u32 0, .string ⟨#[]⟩, .int .i64 0, .int .i64 0, .int .u32 0, .string ⟨#[]⟩] 119) = V0 := ⟨_, rfl⟩
            obtain ⟨g, hg⟩ : ∃ g, w2.heap.size = g := ⟨_, rfl⟩
            have hBg : Blk V0 g 119 #[.string ⟨#[]⟩, .int .i64 0, .int .i64 0, .int .i64 0, .int .i64 0, .int .u32 0, .string ⟨#[]⟩, .int .i64 0, .int .i64 0, .int .u32 0, .string ⟨#[]⟩] := by rw [← hV0, ← hg]; exact Blk.new _ _ _
            have hbV0 : Aft wr V0 := by rw [← hV0]; exact H2.out.alloc H2.out.size _
            have hgw : wr.heap.size ≤ g := by rw [← hg]; exact H2.out.size
            rw [hV0, hg]
            clear hV0 hg
            refine mixT_forced hbV0 ?_
            go_wp2_with fail
            refine (HG2.out _ (HT.out _ hbV0).t2).mono ?_
            rintro e V ⟨rfl, hb3⟩
            have HV := Lib.hid (And.intro (hBg.below hb3 hBg.lt) (And.intro (show Aft wr V from Aft.keep _ _ hbV0 hb3) hgw))
            clear hb3 hBg hbV0 hgw
            go_wp2_with fail
            show mixT _ _ _ _ _ _ _
            apply mixT_first; apply Exists.intro; refine ⟨fun m => ?_, HV.out.2.1, ?_⟩; · (go_big_quiet_step (fail); exact wpQuiet_nil rfl)
            have z0 := HV.out.1.cell 0
            have z1 := HV.out.1.cell 1
            have z2 := HV.out.1.cell 2
            have z3 := HV.out.1.cell 3
            have z4 := HV.out.1.cell 4
            have z5 := HV.out.1.cell 5
            have z6 := HV.out.1.cell 6
            have z7 := HV.out.1.cell 7
            have z8 := HV.out.1.cell 8
            have z9 := HV.out.1.cell 9
            have z10 := HV.out.1.cell 10
            simp only [List.getElem?_toArray, List.getElem?_cons_succ, List.getElem?_cons_zero] at z0 z1 z2 z3 z4 z5 z6 z7 z8 z9 z10
            have fz0 := HV.out.1.frozen 0
            have fz1 := HV.out.1.frozen 1
            have fz2 := HV.out.1.frozen 2
            have fz3 := HV.out.1.frozen 3
            have fz4 := HV.out.1.frozen 4
            have fz5 := HV.out.1.frozen 5
            have fz6 := HV.out.1.frozen 6
            have fz7 := HV.out.1.frozen 7
            have fz8 := HV.out.1.frozen 8
            have fz9 := HV.out.1.frozen 9
            have fz10 := HV.out.1.frozen 10
            refine mixT_forced HV.out.2.1 ?_
            go_wp2_with fail
            show mixT _ _ _ _ _ _ _
            obtain ⟨VF, hVF⟩ : ∃ VF, (((((((((((V.setCell ⟨g, 0, none⟩ (.string q)).setCell ⟨g, 1, none⟩ (.int .i64 0)).setCell ⟨g, 2, none⟩ (.int .i64 0)).setCell ⟨g, 3, none⟩ (.int .i64 ak)).setCell ⟨g, 4, none⟩ (.int .i64 am)).setCell ⟨g, 5, none⟩ (.int .u32 at')).setCell ⟨g, 6, none⟩ (.string ad)).setCell ⟨g, 7, none⟩ (.int .i64 ck)).setCell ⟨g, 8, none⟩ (.int .i64 cm)).setCell ⟨g, 9, none⟩ (.int .u32 ct)).setCell ⟨g, 10, none⟩ (.string cd)) = VF := ⟨_, rfl⟩
            rw [hVF]
            have p0 : Blk (V.setCell ⟨g, 0, none⟩ (.string q)) g 119 #[.string q, .int .i64 0, .int .i64 0, .int .i64 0, .int .i64 0, .int .u32 0, .string ⟨#[]⟩, .int .i64 0, .int .i64 0, .int .u32 0, .string ⟨#[]⟩] := HV.out.1.put 0 (.string q)
            have p1 : Blk ((V.setCell ⟨g, 0, none⟩ (.string q)).setCell ⟨g, 1, none⟩ (.int .i64 0)) g 119 #[.string q, .int .i64 0, .int .i64 0, .int .i64 0, .int .i64 0, .int .u32 0, .string ⟨#[]⟩, .int .i64 0, .int .i64 0, .int .u32 0, .string ⟨#[]⟩] := p0.put 1 (.int .i64 0)
            have p2 : Blk (((V.setCell ⟨g, 0, none⟩ (.string q)).setCell ⟨g, 1, none⟩ (.int .i64 0)).setCell ⟨g, 2, none⟩ (.int .i64 0)) g 119 #[.string q, .int .i64 0, .int .i64 0, .int .i64 0, .int .i64 0, .int .u32 0, .string ⟨#[]⟩, .int .i64 0, .int .i64 0, .int .u32 0, .string ⟨#[]⟩] := p1.put 2 (.int .i64 0)
            have p3 : Blk ((((V.setCell ⟨g, 0, none⟩ (.string q)).setCell ⟨g, 1, none⟩ (.int .i64 0)).setCell ⟨g, 2, none⟩ (.int .i64 0)).setCell ⟨g, 3, none⟩ (.int .i64 ak)) g 119 #[.string q, .int .i64 0, .int .i64 0, .int .i64 ak, .int .i64 0, .int .u32 0, .string ⟨#[]⟩, .int .i64 0, .int .i64 0, .int .u32 0, .string ⟨#[]⟩] := p2.put 3 (.int .i64 ak)
            have p4 : Blk (((((V.setCell ⟨g, 0, none⟩ (.string q)).setCell ⟨g, 1, none⟩ (.int .i64 0)).setCell ⟨g, 2, none⟩ (.int .i64 0)).setCell ⟨g, 3, none⟩ (.int .i64 ak)).setCell ⟨g, 4, none⟩ (.int .i64 am)) g 119 #[.string q, .int .i64 0, .int .i64 0, .int .i64 ak, .int .i64 am, .int .u32 0, .string ⟨#[]⟩, .int .i64 0, .int .i64 0, .int .u32 0, .string ⟨#[]⟩] := p3.put 4 (.int .i64 am)
            have p5 : Blk ((((((V.setCell ⟨g, 0, none⟩ (.string q)).setCell ⟨g, 1, none⟩ (.int .i64 0)).setCell ⟨g, 2, none⟩ (.int .i64 0)).setCell ⟨g, 3, none⟩ (.int .i64 ak)).setCell ⟨g, 4, none⟩ (.int .i64 am)).setCell ⟨g, 5, none⟩ (.int .u32 at')) g 119 #[.string q, .int .i64 0, .int .i64 0, .int .i64 ak, .int .i64 am, .int .u32 at', .string ⟨#[]⟩, .int .i64 0, .int .i64 0, .int .u32 0, .string ⟨#[]⟩] := p4.put 5 (.int .u32 at')
            have p6 : Blk (((((((V.setCell ⟨g, 0, none⟩ (.string q)).setCell ⟨g, 1, none⟩ (.int .i64 0)).setCell ⟨g, 2, none⟩ (.int .i64 0)).setCell ⟨g, 3, none⟩ (.int .i64 ak)).setCell ⟨g, 4, none⟩ (.int .i64 am)).setCell ⟨g, 5, none⟩ (.int .u32 at')).setCell ⟨g, 6, none⟩ (.string ad)) g 119 #[.string q, .int .i64 0, .int .i64 0, .int .i64 ak, .int .i64 am, .int .u32 at', .string ad, .int .i64 0, .int .i64 0, .int .u32 0, .string ⟨#[]⟩] := p5.put 6 (.string ad)
            have p7 : Blk ((((((((V.setCell ⟨g, 0, none⟩ (.string q)).setCell ⟨g, 1, none⟩ (.int .i64 0)).setCell ⟨g, 2, none⟩ (.int .i64 0)).setCell ⟨g, 3, none⟩ (.int .i64 ak)).setCell ⟨g, 4, none⟩ (.int .i64 am)).setCell ⟨g, 5, none⟩ (.int .u32 at')).setCell ⟨g, 6, none⟩ (.string ad)).setCell ⟨g, 7, none⟩ (.int .i64 ck)) g 119 #[.string q, .int .i64 0, .int .i64 0, .int .i64 ak, .int .i64 am, .int .u32 at', .string ad, .int .i64 ck, .int .i64 0, .int .u32 0, .string ⟨#[]⟩] := p6.put 7 (.int .i64 ck)
            have p8 : Blk (((((((((V.setCell ⟨g, 0, none⟩ (.string q)).setCell ⟨g, 1, none⟩ (.int .i64 0)).setCell ⟨g, 2, none⟩ (.int .i64 0)).setCell ⟨g, 3, none⟩ (.int .i64 ak)).setCell ⟨g, 4, none⟩ (.int .i64 am)).setCell ⟨g, 5, none⟩ (.int .u32 at')).setCell ⟨g, 6, none⟩ (.string ad)).setCell ⟨g, 7, none⟩ (.int .i64 ck)).setCell ⟨g, 8, none⟩ (.int .i64 cm)) g 119 #[.string q, .int .i64 0, .int .i64 0, .int .i64 ak, .int .i64 am, .int .u32 at', .string ad, .int .i64 ck, .int .i64 cm, .int .u32 0, .string ⟨#[]⟩] := p7.put 8 (.int .i64 cm)
            have p9 : Blk ((((((((((V.setCell ⟨g, 0, none⟩ (.string q)).setCell ⟨g, 1, none⟩ (.int .i64 0)).setCell ⟨g, 2, none⟩ (.int .i64 0)).setCell ⟨g, 3, none⟩ (.int .i64 ak)).setCell ⟨g, 4, none⟩ (.int .i64 am)).setCell ⟨g, 5, none⟩ (.int .u32 at')).setCell ⟨g, 6, none⟩ (.string ad)).setCell ⟨g, 7, none⟩ (.int .i64 ck)).setCell ⟨g, 8, none⟩ (.int .i64 cm)).setCell ⟨g, 9, none⟩ (.int .u32 ct)) g 119 #[.string q, .int .i64 0, .int .i64 0, .int .i64 ak, .int .i64 am, .int .u32 at', .string ad, .int .i64 ck, .int .i64 cm, .int .u32 ct, .string ⟨#[]⟩] := p8.put 9 (.int .u32 ct)
            have p10 : Blk (((((((((((V.setCell ⟨g, 0, none⟩ (.string q)).setCell ⟨g, 1, none⟩ (.int .i64 0)).setCell ⟨g, 2, none⟩ (.int .i64 0)).setCell ⟨g, 3, none⟩ (.int .i64 ak)).setCell ⟨g, 4, none⟩ (.int .i64 am)).setCell ⟨g, 5, none⟩ (.int .u32 at')).setCell ⟨g, 6, none⟩ (.string ad)).setCell ⟨g, 7, none⟩ (.int .i64 ck)).setCell ⟨g, 8, none⟩ (.int .i64 cm)).setCell ⟨g, 9, none⟩ (.int .u32 ct)).setCell ⟨g, 10, none⟩ (.string cd)) g 119 #[.string q, .int .i64 0, .int .i64 0, .int .i64 ak, .int .i64 am, .int .u32 at', .string ad, .int .i64 ck, .int .i64 cm, .int .u32 ct, .string cd] := p9.put 10 (.string cd)
            have hBF : Blk VF g 119 #[.string q, .int .i64 0, .int .i64 0, .int .i64 ak, .int .i64 am, .int .u32 at', .string ad, .int .i64 ck, .int .i64 cm, .int .u32 ct, .string cd] := by rw [← hVF]; exact p10
            clear p0 p1 p2 p3 p4 p5 p6 p7 p8 p9 p10
            have hbV : Aft wr VF := by rw [← hVF]; exact (((((((((((HV.out.2.1.setCell (p := ⟨g, 0, none⟩) HV.out.2.2 (.string q)).setCell (p := ⟨g, 1, none⟩) HV.out.2.2 (.int .i64 0)).setCell (p := ⟨g, 2, none⟩) HV.out.2.2 (.int .i64 0)).setCell (p := ⟨g, 3, none⟩) HV.out.2.2 (.int .i64 ak)).setCell (p := ⟨g, 4, none⟩) HV.out.2.2 (.int .i64 am)).setCell (p := ⟨g, 5, none⟩) HV.out.2.2 (.int .u32 at')).setCell (p := ⟨g, 6, none⟩) HV.out.2.2 (.string ad)).setCell (p := ⟨g, 7, none⟩) HV.out.2.2 (.int .i64 ck)).setCell (p := ⟨g, 8, none⟩) HV.out.2.2 (.int .i64 cm)).setCell (p := ⟨g, 9, none⟩) HV.out.2.2 (.int .u32 ct)).setCell (p := ⟨g, 10, none⟩) HV.out.2.2 (.string cd))
            clear hVF z0 fz0 z1 fz1 z2 fz2 z3 fz3 z4 fz4 z5 fz5 z6 fz6 z7 fz7 z8 fz8 z9 fz9 z10 fz10
            refine mixT_nil hbV ?_
            go_wp2_with fail
            go_meet
            exact ⟨g, rfl, HV.out.2.2, hBF, hbV⟩
        · go_wp2_with fail
          show mixT _ _ _ _ _ _ _
          obtain ⟨V0, hV0⟩ : ∃ V0, (wr.alloc (.cells #[.string ⟨#[]⟩, .int .i64 0, .int .i64 0, .int .i64 0, .int .i64 0, .int .u32 0, .string ⟨#[]⟩, .int .i64 0, .int .i64 0, .int .u32 0, .string ⟨#[]⟩] 119)).drew = V0 := ⟨_, rfl⟩
          obtain ⟨g, hg⟩ : ∃ g, wr.heap.size = g := ⟨_, rfl⟩
          have hBg : Blk V0 g 119 #[.string ⟨#[]⟩, .int .i64 0, .int .i64 0, .int .i64 0, .int .i64 0, .int .u32 0, .string ⟨#[]⟩, .int .i64 0, .int .i64 0, .int .u32 0, .string ⟨#[]⟩] := by rw [← hV0, ← hg]; exact (Blk.new wr _ _).drew
          have hbV0 : Aft wr V0 := by rw [← hV0]; exact ((Below.refl _ wr).alloc (Nat.le_refl _) _).drew
          have hgw : wr.heap.size ≤ g := Nat.le_of_eq hg
          rw [hV0, hg]
          clear hV0 hg
          refine mixT_forced hbV0 ?_
          go_wp2_with fail
          refine (HG1.out _ (HT.out _ hbV0).t1).mono ?_
          rintro e V1 ⟨rfl, hb2⟩
          have hB1 := hBg.below hb2 hBg.lt
          have hbV1 : Aft wr V1 := Aft.keep _ _ hbV0 hb2
          clear hBg hbV0 hb2
          go_wp2_with fail
          show mixT _ _ _ _ _ _ _
          refine mixT_forced hbV1 ?_
          go_wp2_with fail
          refine (HG2.out _ (HT.out _ hbV1).t2).mono ?_
          rintro e V ⟨rfl, hb3⟩
          have HV := Lib.hid (And.intro (hB1.below hb3 hB1.lt) (And.intro (show Aft wr V from Aft.keep _ _ hbV1 hb3) hgw))
          clear hb3 hB1 hbV1 hgw
          go_wp2_with fail
          show mixT _ _ _ _ _ _ _
          apply mixT_first; apply Exists.intro; refine ⟨fun m => ?_, HV.out.2.1, ?_⟩; · (go_big_quiet_step (fail); exact wpQuiet_nil rfl)
          have z0 := HV.out.1.cell 0
          have z1 := HV.out.1.cell 1
          have z2 := HV.out.1.cell 2
          have z3 := HV.out.1.cell 3
          have z4 := HV.out.1.cell 4
          have z5 := HV.out.1.cell 5
          have z6 := HV.out.1.cell 6
          have z7 := HV.out.1.cell 7
          have z8 := HV.out.1.cell 8
          have z9 := HV.out.1.cell 9
          have z10 := HV.out.1.cell 10
          simp only [List.getElem?_toArray, List.getElem?_cons_succ, List.getElem?_cons_zero] at z0 z1 z2 z3 z4 z5 z6 z7 z8 z9 z10
          have fz0 := HV.out.1.frozen 0
          have fz1 := HV.out.1.frozen 1
          have fz2 := HV.out.1.frozen 2
          have fz3 := HV.out.1.frozen 3
          have fz4 := HV.out.1.frozen 4
          have fz5 := HV.out.1.frozen 5
          have fz6 := HV.out.1.frozen 6
          have fz7 := HV.out.1.frozen 7
          have fz8 := HV.out.1.frozen 8
          have fz9 := HV.out.1.frozen 9
          have fz10 := HV.out.1.frozen 10
          refine mixT_forced HV.out.2.1 ?_
          go_wp2_with fail
          show mixT _ _ _ _ _ _ _
          obtain ⟨VF, hVF⟩ : ∃ VF, (((((((((((V.setCell ⟨g, 0, none⟩ (.string q)).setCell ⟨g, 1, none⟩ (.int .i64 0)).setCell ⟨g, 2, none⟩ (.int .i64 0)).setCell ⟨g, 3, none⟩ (.int .i64 ak)).setCell ⟨g, 4, none⟩ (.int .i64 am)).setCell ⟨g, 5, none⟩ (.int .u32 at')).setCell ⟨g, 6, none⟩ (.string ad)).setCell ⟨g, 7, none⟩ (.int .i64 ck)).setCell ⟨g, 8, none⟩ (.int .i64 cm)).setCell ⟨g, 9, none⟩ (.int .u32 ct)).setCell ⟨g, 10, none⟩ (.string cd)) = VF := ⟨_, rfl⟩
          rw [hVF]
          have p0 : Blk (V.setCell ⟨g, 0, none⟩ (.string q)) g 119 #[.string q, .int .i64 0, .int .i64 0, .int .i64 0, .int .i64 0, .int .u32 0, .string ⟨#[]⟩, .int .i64 0, .int .i64 0, .int .u32 0, .string ⟨#[]⟩] := HV.out.1.put 0 (.string q)
          have p1 : Blk ((V.setCell ⟨g, 0, none⟩ (.string q)).setCell ⟨g, 1, none⟩ (.int .i64 0)) g 119 #[.string q, .int .i64 0, .int .i64 0, .int .i64 0, .int .i64 0, .int .u32 0, .string ⟨#[]⟩, .int .i64 0, .int .i64 0, .int .u32 0, .string ⟨#[]⟩] := p0.put 1 (.int .i64 0)
          have p2 : Blk (((V.setCell ⟨g, 0, none⟩ (.string q)).setCell ⟨g, 1, none⟩ (.int .i64 0)).setCell ⟨g, 2, none⟩ (.int .i64 0)) g 119 #[.string q, .int .i64 0, .int .i64 0, .int .i64 0, .int .i64 0, .int .u32 0, .string ⟨#[]⟩, .int .i64 0, .int .i64 0, .int .u32 0, .string ⟨#[]⟩] := p1.put 2 (.int .i64 0)
          have p3 : Blk ((((V.setCell ⟨g, 0, none⟩ (.string q)).setCell ⟨g, 1, none⟩ (.int .i64 0)).setCell ⟨g, 2, none⟩ (.int .i64 0)).setCell ⟨g, 3, none⟩ (.int .i64 ak)) g 119 #[.string q, .int .i64 0, .int .i64 0, .int .i64 ak, .int .i64 0, .int .u32 0, .string ⟨#[]⟩, .int .i64 0, .int .i64 0, .int .u32 0, .string ⟨#[]⟩] := p2.put 3 (.int .i64 ak)
          have p4 : Blk (((((V.setCell ⟨g, 0, none⟩ (.string q)).setCell ⟨g, 1, none⟩ (.int .i64 0)).setCell ⟨g, 2, none⟩ (.int .i64 0)).setCell ⟨g, 3, none⟩ (.int .i64 ak)).setCell ⟨g, 4, none⟩ (.int .i64 am)) g 119 #[.string q, .int .i64 0, .int .i64 0, .int .i64 ak, .int .i64 am, .int .u32 0, .string ⟨#[]⟩, .int .i64 0, .int .i64 0, .int .u32 0, .string ⟨#[]⟩] := p3.put 4 (.int .i64 am)
          have p5 : Blk ((((((V.setCell ⟨g, 0, none⟩ (.string q)).setCell ⟨g, 1, none⟩ (.int .i64 0)).setCell ⟨g, 2, none⟩ (.int .i64 0)).setCell ⟨g, 3, none⟩ (.int .i64 ak)).setCell ⟨g, 4, none⟩ (.int .i64 am)).setCell ⟨g, 5, none⟩ (.int .u32 at')) g 119 #[.string q, .int .i64 0, .int .i64 0, .int .i64 ak, .int .i64 am, .int .u32 at', .string ⟨#[]⟩, .int .i64 0, .int .i64 0, .int .u32 0, .string ⟨#[]⟩] := p4.put 5 (.int .u32 at')
          have p6 : Blk (((((((V.setCell ⟨g, 0, none⟩ (.string q)).setCell ⟨g, 1, none⟩ (.int .i64 0)).setCell ⟨g, 2, none⟩ (.int .i64 0)).setCell ⟨g, 3, none⟩ (.int .i64 ak)).setCell ⟨g, 4, none⟩ (.int .i64 am)).setCell ⟨g, 5, none⟩ (.int .u32 at')).setCell ⟨g, 6, none⟩ (.string ad)) g 119 #[.string q, .int .i64 0, .int .i64 0, .int .i64 ak, .int .i64 am, .int .u32 at', .string ad, .int .i64 0, .int .i64 0, .int .u32 0, .string ⟨#[]⟩] := p5.put 6 (.string ad)
          have p7 : Blk ((((((((V.setCell ⟨g, 0, none⟩ (.string q)).setCell ⟨g, 1, none⟩ (.int .i64 0)).setCell ⟨g, 2, none⟩ (.int .i64 0)).setCell ⟨g, 3, none⟩ (.int .i64 ak)).setCell ⟨g, 4, none⟩ (.int .i64 am)).setCell ⟨g, 5, none⟩ (.int .u32 at')).setCell ⟨g, 6, none⟩ (.string ad)).setCell ⟨g, 7, none⟩ (.int .i64 ck)) g 119 #[.string q, .int .i64 0, .int .i64 0, .int .i64 ak, .int .i64 am, .int .u32 at', .string ad, .int .i64 ck, .int .i64 0, .int .u32 0, .string ⟨#[]⟩] := p6.put 7 (.int .i64 ck)
          have p8 : Blk (((((((((V.setCell ⟨g, 0, none⟩ (.string q)).setCell ⟨g, 1, none⟩ (.int .i64 0)).setCell ⟨g, 2, none⟩ (.int .i64 0)).setCell ⟨g, 3, none⟩ (.int .i64 ak)).setCell ⟨g, 4, none⟩ (.int .i64 am)).setCell ⟨g, 5, none⟩ (.int .u32 at')).setCell ⟨g, 6, none⟩ (.string ad)).setCell ⟨g, 7, none⟩ (.int .i64 ck)).setCell ⟨g, 8, none⟩ (.int .i64 cm)) g 119 #[.string q, .int .i64 0, .int .i64 0, .int .i64 ak, .int .i64 am, .int .u32 at', .string ad, .int .i64 ck, .int .i64 cm, .int .u32 0, .string ⟨#[]⟩] := p7.put 8 (.int .i64 cm)
          have p9 : Blk ((((((((((V.setCell ⟨g, 0, none⟩ (.string q)).setCell ⟨g, 1, none⟩ (.int .i64 0)).setCell ⟨g, 2, none⟩ (.int .i64 0)).setCell ⟨g, 3, none⟩ (.int .i64 ak)).setCell ⟨g, 4, none⟩ (.int .i64 am)).setCell ⟨g, 5, none⟩ (.int .u32 at')).setCell ⟨g, 6, none⟩ (.string ad)).setCell ⟨g, 7, none⟩ (.int .i64 ck)).setCell ⟨g, 8, none⟩ (.int .i64 cm)).setCell ⟨g, 9, none⟩ (.int .u32 ct)) g 119 #[.string q, .int .i64 0, .int .i64 0, .int .i64 ak, .int .i64 am, .int .u32 at', .string ad, .int .i64 ck, .int .i64 cm, .int .u32 ct, .string ⟨#[]⟩] := p8.put 9 (.int .u32 ct)
          have p10 : Blk (((((((((((V.setCell ⟨g, 0, none⟩ (.string q)).setCell ⟨g, 1, none⟩ (.int .i64 0)).setCell ⟨g, 2, none⟩ (.int .i64 0)).setCell ⟨g, 3, none⟩ (.int .i64 ak)).setCell ⟨g, 4, none⟩ (.int .i64 am)).setCell ⟨g, 5, none⟩ (.int .u32 at')).setCell ⟨g, 6, none⟩ (.string ad)).setCell ⟨g, 7, none⟩ (.int .i64 ck)).setCell ⟨g, 8, none⟩ (.int .i64 cm)).setCell ⟨g, 9, none⟩ (.int .u32 ct)).setCell ⟨g, 10, none⟩ (.string cd)) g 119 #[.string q, .int .i64 0, .int .i64 0, .int .i64 ak, .int .i64 am, .int .u32 at', .string ad, .int .i64 ck, .int .i64 cm, .int .u32 ct, .string cd] := p9.put 10 (.string cd)
          have hBF : Blk VF g 119 #[.string q, .int .i64 0, .int .i64 0, .int .i64 ak, .int .i64 am, .int .u32 at', .string ad, .int .i64 ck, .int .i64 cm, .int .u32 ct, .string cd] := by rw [← hVF]; exact p10
          clear p0 p1 p2 p3 p4 p5 p6 p7 p8 p9 p10
          have hbV : Aft wr VF := by rw [← hVF]; exact (((((((((((HV.out.2.1.setCell (p := ⟨g, 0, none⟩) HV.out.2.2 (.string q)).setCell (p := ⟨g, 1, none⟩) HV.out.2.2 (.int .i64 0)).setCell (p := ⟨g, 2, none⟩) HV.out.2.2 (.int .i64 0)).setCell (p := ⟨g, 3, none⟩) HV.out.2.2 (.int .i64 ak)).setCell (p := ⟨g, 4, none⟩) HV.out.2.2 (.int .i64 am)).setCell (p := ⟨g, 5, none⟩) HV.out.2.2 (.int .u32 at')).setCell (p := ⟨g, 6, none⟩) HV.out.2.2 (.string ad)).setCell (p := ⟨g, 7, none⟩) HV.out.2.2 (.int .i64 ck)).setCell (p := ⟨g, 8, none⟩) HV.out.2.2 (.int .i64 cm)).setCell (p := ⟨g, 9, none⟩) HV.out.2.2 (.int .u32 ct)).setCell (p := ⟨g, 10, none⟩) HV.out.2.2 (.string cd))
          clear hVF z0 fz0 z1 fz1 z2 fz2 z3 fz3 z4 fz4 z5 fz5 z6 fz6 z7 fz7 z8 fz8 z9 fz9 z10 fz10
          refine mixT_nil hbV ?_
          go_wp2_with fail
          go_meet
          exact ⟨g, rfl, HV.out.2.2, hBF, hbV⟩
      case rest =>
        obtain ⟨g, rfl, hgw, hBg, hbx⟩ := hcut
        generalize wc = w3 at *
        have hEx := HR.out.1.below hbx
        have H3 := Lib.hid (And.intro hBg (And.intro hbx hgw))
        have q0 := hEx.b0.cell 0
        have q1 := hEx.b0.cell 1
        simp only [List.getElem?_toArray, List.getElem?_cons_succ, List.getElem?_cons_zero] at q0 q1
        clear hBg hbx hgw hEx x2 x3 HG1 HG2
        go_wp2_with fail
        refine (HFF.out w3 H3.out.2.1).mono ?_
        rintro e w4 ⟨rfl, hb4⟩
        have H4 := Lib.hid (And.intro (H3.out.1.below hb4 H3.out.1.lt) (H3.out.2.1.trans (hb4.mono H3.out.2.1.size)))
        clear hb4 HFF q0 q1
        go_upto_region 5 with fail
        have hba : Below w4.heap.size w4 (w4.alloc (.cells #[.int .i64 fa, .int .i64 fb, .int .u32 fc, .int .i64 fd, .int .u32 fs] 61)) := (Below.refl _ w4).alloc (Nat.le_refl _) _
        have hBP : Blk (w4.alloc (.cells #[.int .i64 fa, .int .i64 fb, .int .u32 fc, .int .i64 fd, .int .u32 fs] 61)) w4.heap.size 61 #[.int .i64 fa, .int .i64 fb, .int .u32 fc, .int .i64 fd, .int .u32 fs] := Blk.new _ _ _
        generalize w4.alloc (.cells #[.int .i64 fa, .int .i64 fb, .int .u32 fc, .int .i64 fd, .int .u32 fs] 61) = w5 at *
        have hBg := H4.out.1.below hba H4.out.1.lt
        have H5 := Lib.hid (And.intro hBg (H4.out.2.trans (hba.mono H4.out.2.size)))
        have p0 := hBP.cell 0
        have p1 := hBP.cell 1
        have p2 := hBP.cell 2
        have p3 := hBP.cell 3
        have p4 := hBP.cell 4
        have z3 := hBg.cell 3
        have z4 := hBg.cell 4
        have z5 := hBg.cell 5
        have z6 := hBg.cell 6
        have z7 := hBg.cell 7
        have z8 := hBg.cell 8
        have z9 := hBg.cell 9
        have z10 := hBg.cell 10
        simp only [List.getElem?_toArray, List.getElem?_cons_succ, List.getElem?_cons_zero] at p0 p1 p2 p3 p4 z3 z4 z5 z6 z7 z8 z9 z10
        clear hba hBP hBg H4
        go_wp2_with fail
        refine (HDD.out w5).mono ?_
        rintro e w6 ⟨rfl, hb6⟩
        have hBg := H5.out.1.below hb6 H5.out.1.lt
        have H6 := Lib.hid (And.intro hBg (H5.out.2.trans (hb6.mono H5.out.2.size)))
        clear p0 p1 p2 p3 p4 z3 z4 z5 z6 z7 z8 z9 z10 hb6 H5 HDD
        have z1 := hBg.cell 1
        have z2 := hBg.cell 2
        simp only [List.getElem?_toArray, List.getElem?_cons_succ, List.getElem?_cons_zero] at z1 z2
        have fz1 := hBg.frozen 1
        have fz2 := hBg.frozen 2
        clear hBg
        go_upto_region 6 with fail
        obtain ⟨w7, hw7⟩ : ∃ w7, (w6.setCell ⟨g, 1, none⟩ (.int .i64 vd)).setCell ⟨g, 2, none⟩ (.int .i64 cl) = w7 := ⟨_, rfl⟩
        rw [hw7]
        have hB1 : Blk (w6.setCell ⟨g, 1, none⟩ (.int .i64 vd)) g 119 #[.string q, .int .i64 vd, .int .i64 0, .int .i64 ak, .int .i64 am, .int .u32 at', .string ad, .int .i64 ck, .int .i64 cm, .int .u32 ct, .string cd] := H6.out.1.put 1 (.int .i64 vd)
        have hB2 : Blk w7 g 119 #[.string q, .int .i64 vd, .int .i64 cl, .int .i64 ak, .int .i64 am, .int .u32 at', .string ad, .int .i64 ck, .int .i64 cm, .int .u32 ct, .string cd] := by rw [← hw7]; exact hB1.put 2 (.int .i64 cl)
        have hb7 : Below wr.heap.size wr w7 := by rw [← hw7]; exact (H6.out.2.setCell (p := ⟨g, 1, none⟩) H3.out.2.2 _).setCell (p := ⟨g, 2, none⟩) H3.out.2.2 _
        clear z1 z2 fz1 fz2 hB1 hw7 H6 H3
        have z0 := hB2.cell 0
        have z1 := hB2.cell 1
        have z2 := hB2.cell 2
        have z3 := hB2.cell 3
        have z4 := hB2.cell 4
        have z5 := hB2.cell 5
        have z6 := hB2.cell 6
        have z7 := hB2.cell 7
        have z8 := hB2.cell 8
        have z9 := hB2.cell 9
        have z10 := hB2.cell 10
        simp only [List.getElem?_toArray, List.getElem?_cons_succ, List.getElem?_cons_zero] at z0 z1 z2 z3 z4 z5 z6 z7 z8 z9 z10
        have hJ7 := HJ.out.1 _ wr w7 none HR.out.2.1 (grown_below (row := none) hb7) (fun r h => by cases h)
        have hy := HJ.out.2 (ans.take i) ⟨q, vd, cl, ⟨ak, am, at', ad⟩, ⟨ck, cm, ct, cd⟩⟩ w7 hJ7 (by rw [← HST.out]; exact List.take_prefix _ _)
        rw [← HST.out] at hy
        have HK7 := Lib.hid (HR.out.2.2.trans (KeepG.below (B0 := B0) (ts := ts) (ty := 9) (gs := gs) hb7 hszr (Nat.lt_of_lt_of_le HCP.out.1 (Nat.le_trans H1.out.2.1.keep.low.size HR.out.2.2.keep.low.size))))
        obtain ⟨fn, tmps, assign, body, hyy, hR⟩ := hy
        simp only [eCR] at hyy hR
        clear hB2 hb7 hJ7 HR
        refine (wpIn_wide (n := n)).1 ?_
        gi_wp2
        refine ⟨fun _ => by omega, hR.mono ?_⟩
        rintro e W3 (⟨rfl, hJ3, hk3⟩ | ⟨rfl, hJx3⟩)
        · have HZ := Lib.hid (And.intro hJ3 (HK7.out.trans hk3)); clear hJ3 hk3
          gi_wp2
          go_wp2_with fail
          go_roundw
          case rel => exact ⟨i + 1, by go_num, by omega, HZ.out.1, HZ.out.2⟩
          case measure => simp [intOf]; omega
        · gi_wp2
          go_wp2_with fail
          refine bodyPost_ret (results_none rfl _ _ _) rfl ?_
          exact ⟨⟨_, rfl⟩, .inr ⟨_, List.take_prefix _ _, hJx3⟩⟩
    · obtain rfl : i = n0 := by omega
      have hf : ans.take i = ans := List.take_of_length_le (by rw [HA.out, List.length_map]; have := HN.out; omega)
      rw [hf] at hJr
      go_wp2_with fail
      go_end0
      exact ⟨⟨_, rfl⟩, .inl ⟨_, rfl, hJr⟩⟩
end Go.Proofs.YtnpehjgnplaabaaGreatDoor
