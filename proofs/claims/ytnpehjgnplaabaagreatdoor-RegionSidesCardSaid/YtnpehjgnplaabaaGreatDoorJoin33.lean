/- Several texts, joined for the limit of sixty files; each one opens with its own comment. -/
import Derived.Test.YtnpehjgnplaabaaGreatDoorJoin32
import Derived.Test.YtnpehjgnplaabaaGreatDoorJoin18
import Derived.Test.YtnpehjgnplaabaaGreatDoorJoin8
/- Several texts, joined for the limit of sixty files; each one opens with its own comment. -/
/- region's first, walked. -/
set_option linter.unusedVariables false
set_option linter.unusedSimpArgs false
namespace Go.Proofs.YtnpehjgnplaabaaGreatDoor
open Go Go.RowKit Go.Shelf
open Sw
attribute [local go_sem] Oper.semAt_some
/-- behind some steps -/
def FiI (B0 : Nat) (w0 : World) (gsb gs bt bt2 m0 m1 mc : Nat) (policy : Int) (xs ys : List NE) (pre : List StR) (W : World) : Prop :=
  (∃ pv, RgAt B0 W gs bt bt2 m0 m1 mc (2 * pre.length) policy pv (.slice none 0 0) (pre.map (firstN policy xs ys)) []) ∧ Blk W gsb 70 #[.pointer (some ⟨gs, 0, none⟩)] ∧ Below B0 w0 W
/-- the cells that a round reads -/
def CFi (gsb gs n0 : Nat) (cs xcs : Array Value) (V : World) : Prop := Blk V gsb 70 #[.pointer (some ⟨gs, 0, none⟩)] ∧ Blk V gs 76 cs ∧ Blk V n0 119 xcs
theorem CFi.below {gsb gs n0 : Nat} {cs xcs : Array Value} {V V' : World} (h : CFi gsb gs n0 cs xcs V) (hb : Below V.heap.size V V') : CFi gsb gs n0 cs xcs V' := ⟨h.1.below hb h.1.lt, h.2.1.below hb h.2.1.lt, h.2.2.below hb h.2.2.lt⟩
set_option maxRecDepth 100000 in
set_option maxHeartbeats 16000000 in
theorem regFirst_any (B0 : Nat) (w : World) (gs bt bm bt2 bm2 m0 m1 mc : Nat) (policy : Int) (u1 u2 : Value) (l1 l2 : List MkE) (xs ys : List NE)
    (h : RgAt B0 w gs bt bt2 m0 m1 mc 0 policy (.slice none 0 0) (.slice none 0 0) [] []) (hT : ∀ W, Below B0 w W → TreeAt W bt bm xs) (hT2 : ∀ W, Below B0 w W → TreeAt W bt2 bm2 ys) (h1 : ∀ W, Below B0 w W → SlV W 6 eCM u1 l1) (h2 : ∀ W, Below B0 w W → SlV W 6 eCM u2 l2)
    (hl1 : l1.length ≤ 1000) (hl2 : l2.length ≤ 1000) (hp1 : ∀ m ∈ l1, m.1.size ≤ 90000) (hp2 : ∀ m ∈ l2, m.1.size ≤ 90000) (hxl : xs.length ≤ 1000) (hyl : ys.length ≤ 1000) (hxd : ∀ e ∈ xs, e.2.data.size ≤ maxLen) (hyd : ∀ e ∈ ys, e.2.data.size ≤ maxLen) :
    Calls Tryz.prog 26 #[.pointer (some ⟨gs, 0, none⟩), .agg #[u1, u2]] w fun e w' => e = .returned (.tuple #[]) ∧ ∃ pv, RgAt B0 w' gs bt bt2 m0 m1 mc 12000 policy pv (.slice none 0 0) (beginN policy (l1 ++ l2) xs ys) [] ∧ Below B0 w w' := by
  have hxp : ∀ e ∈ xs, e.1.size ≤ 90000 := fun e he => (hT w (Below.refl _ _)).ok (n := e.2) he
  have hyp : ∀ e ∈ ys, e.1.size ≤ 90000 := fun e he => (hT2 w (Below.refl _ _)).ok (n := e.2) he
  have hpz : ∀ p ∈ pathsS ((l1 ++ l2).map Prod.fst ++ xs.map Prod.fst ++ ys.map Prod.fst), p.size ≤ 90000 := fun p hp => by
    rw [pathsS_mem, List.mem_append, List.mem_append] at hp
    rcases hp with (hp | hp) | hp
    · obtain ⟨m, hm, rfl⟩ := List.mem_map.1 hp
      exact (List.mem_append.1 hm).elim (hp1 m) (hp2 m)
    · obtain ⟨e, he, rfl⟩ := List.mem_map.1 hp
      exact hxp e he
    · obtain ⟨e, he, rfl⟩ := List.mem_map.1 hp
      exact hyp e he
  have hlen : (allR (l1 ++ l2) xs ys).length ≤ 6000 := by
    unfold allR
    rw [List.length_map]
    exact Nat.le_trans (pathsS_len _) (by simp only [List.length_append, List.length_map]; omega)
  have hB0w : B0 ≤ w.heap.size := Nat.le_trans (h : RgIn _ _ _ _ _ _ _ _ _ _ _ _ _ _ _ _ _).bs (Nat.le_of_lt (h : RgIn _ _ _ _ _ _ _ _ _ _ _ _ _ _ _ _ _).box.lt)
  obtain ⟨W, hW⟩ : ∃ W, (w.alloc (.cells #[.pointer (some ⟨gs, 0, none⟩)] 70)).alloc (.cells #[u1, u2] 24) = W := ⟨_, rfl⟩
  have hb0 : Below w.heap.size w W := by rw [← hW]; exact ((Below.refl _ w).alloc (Nat.le_refl _) _).alloc (by simp) _
  have hBs : Blk W w.heap.size 70 #[.pointer (some ⟨gs, 0, none⟩)] := by rw [← hW]; exact blk_fst _ _ _ _
  have hBb : Blk W (w.heap.size + 1) 24 #[u1, u2] := by rw [← hW]; exact blk_snd _ _ _ _
  have hrW := (h : RgIn _ _ _ _ _ _ _ _ _ _ _ _ _ _ _ _ _).below hb0
  have HTE := Lib.hid (fun V (hb : Below B0 w V) (hgs : gs < V.heap.size) (hcap : ∀ g, Cap V gs g → g < V.heap.size) gB gl gr (hE : EachAt V gB gl gr bt bm bt2 bm2 u1 u2 xs ys) => SeqTells.into (each_tellsG 8 (by omega) tsG keepOkG B0 V gs hgs hcap (Nat.le_trans hB0w hb.size) gB gl gr bt bm bt2 bm2 u1 u2 l1 l2 xs ys hE (fun U hU => h1 U (hb.trans hU)) (fun U hU => h2 U (hb.trans hU)) hl1 hl2 hp1 hp2 hxl hyl hxd hyd))
  have HTR := Lib.hid (And.intro hT hT2)
  have s1 := h1 w (Below.refl _ _)
  have s2 := h2 w (Below.refl _ _)
  obtain ⟨A1, c1, rfl, -, -, -⟩ := s1
  obtain ⟨A2, c2, rfl, -, -, -⟩ := s2
  have HE := Lib.hid (fun V => reconEach_any V (.slice A1 l1.length c1) (.slice A2 l2.length c2) bt bt2 A1 A2 _ _ _ _ rfl rfl)
  obtain ⟨ans, hans⟩ : ∃ a, allR (l1 ++ l2) xs ys = a := ⟨_, rfl⟩
  have HFS := Lib.hid (fun pre r x (hh : pre ++ x :: r = ans) => first_snoc (policy := policy) (L := l1 ++ l2) (xs := xs) (ys := ys) (pre := pre) (r := r) (x := x) (by rw [hans]; exact hh))
  have HBE := Lib.hid (show beginN policy (l1 ++ l2) xs ys = ans.map (firstN policy xs ys) by unfold beginN; rw [hans])
  have HPZ := Lib.hid hpz
  rw [hans] at HTE hlen
  have q0 := hBb.cell 0
  have q1 := hBb.cell 1
  have q2 := hBs.cell 0
  have r0 := hrW.box.cell 0
  have r1 := hrW.box.cell 1
  simp only [List.getElem?_toArray, List.getElem?_cons_succ, List.getElem?_cons_zero] at q0 q1 q2 r0 r1
  have hgl := hrW.box.lt
  have HC0 := Lib.hid (Aft.start W)
  have k0 : ∀ m : Held (Aft W), (HeldW m).cell? ⟨w.heap.size + 1, 0, none⟩ = some (.slice A1 l1.length c1) := fun m => (Aft.cell m hBb.lt).trans q0
  have k1 : ∀ m : Held (Aft W), (HeldW m).cell? ⟨w.heap.size + 1, 1, none⟩ = some (.slice A2 l2.length c2) := fun m => (Aft.cell m hBb.lt).trans q1
  have k2 : ∀ m : Held (Aft W), (HeldW m).cell? ⟨w.heap.size, 0, none⟩ = some (.pointer (some ⟨gs, 0, none⟩)) := fun m => (Aft.cell m hBs.lt).trans q2
  have k3 : ∀ m : Held (Aft W), (HeldW m).cell? ⟨gs, 0, none⟩ = some (.pointer (some ⟨bt, 0, none⟩)) := fun m => (Aft.cell m hgl).trans r0
  have k4 : ∀ m : Held (Aft W), (HeldW m).cell? ⟨gs, 1, none⟩ = some (.pointer (some ⟨bt2, 0, none⟩)) := fun m => (Aft.cell m hgl).trans r1
  have H0 := Lib.hid (And.intro hrW (And.intro hBs (And.intro hBb hb0)))
  have HW := Lib.hid hW
  obtain ⟨n1, hn1⟩ : ∃ n, l1.length = n := ⟨_, rfl⟩
  obtain ⟨n2, hn2⟩ : ∃ n, l2.length = n := ⟨_, rfl⟩
  simp only [hn1, hn2] at HE HW H0 HTE k0 k1 ⊢
  rw [HBE.out]
  clear h hT hT2 h1 h2 hp1 hp2 hxd hyd hxp hyp hpz hW hb0 hBs hBb hrW q0 q1 q2 r0 r1 hgl hans hn1 hn2
  refine callsIn_wide.1 (?_ : CallsIn Fence.wide 9 _ _ _ _ _)
  refine callsIn_of_wp_marks Tryz.func26 rfl trivial ?_ rfl
  simp only [Tryz.ntmps26, List.size_toArray, List.length_cons, List.length_nil, Nat.reduceAdd, Nat.reduceSub, Array.replicate_succ, Array.replicate_zero, List.push_toArray, List.append_toArray, List.nil_append, List.cons_append]
  refine wpIn_wide.2 ?_
  go_upto_region 1 with fail
  rw [HW.out]
  refine wp_region_mix (Aft W) [(0, true), (1, true), (2, true), (3, true), (4, true), (5, true), (6, true), (7, true), (8, true), (9, true), (10, true), (11, false)] (by kernel_rfl) (by kernel_rfl) ?_
  simp only [pickP, List.filterMap_cons, List.filterMap_nil, List.getElem?_toArray, List.getElem?_cons_succ, List.getElem?_cons_zero, Option.map_some]
  repeat (apply mix_first; apply Exists.intro; refine ⟨fun m => ?_, HC0.out, ?_⟩; · (go_big_quiet_step (fail); exact wpQuiet_nil rfl))
  clear k0 k1 k2 k3 k4
  refine mix_forced HC0.out ?_
  go_wp2_with fail
  refine (HE.out W.drew).mono ?_
  rintro e w1 ⟨rfl, hw1⟩
  obtain ⟨V, hV⟩ : ∃ V, W.drew = V := ⟨_, rfl⟩
  rw [hV] at hw1 HC0 ⊢
  have hVW : Below W.heap.size W V := HC0.out
  have hb1 : Below V.heap.size V w1 := by rw [hw1]; exact (((Below.refl _ V).alloc (Nat.le_refl _) _).alloc (by simp) _).alloc (by simp; omega) _
  have hWw1 : Below W.heap.size W w1 := hVW.trans (hb1.mono hVW.size)
  have hww1 : Below w.heap.size w w1 := H0.out.2.2.2.trans (hWw1.mono H0.out.2.2.2.size)
  have hB1 : Below B0 w w1 := hww1.mono hB0w
  have hE1 : EachAt w1 V.heap.size (V.heap.size + 1) (V.heap.size + 1 + 1) bt bm bt2 bm2 (.slice A1 n1 c1) (.slice A2 n2 c2) xs ys := by
    refine ⟨?_, ?_, ?_, HTR.out.1 w1 hB1, HTR.out.2 w1 hB1⟩
    · rw [hw1]; exact (blk_fst _ _ _ _).alloc _
    · rw [hw1]; exact (blk_snd _ _ _ _).alloc _
    · rw [hw1]; exact blk_trd _ _ _ _ _
  have hr1 := H0.out.1.below hWw1
  have hcap : ∀ g, Cap w1 gs g → g < w1.heap.size := fun g hc => by
    obtain ⟨t, cs, i, v, hb, hi, hv⟩ := hc
    have hbx := hr1.box
    unfold Blk at hb hbx
    rw [hbx] at hb
    cases hb
    have hlt : i < 8 := by
      have := (Array.getElem?_eq_some_iff.1 hi).1
      simpa using this
    have hi' : i = 0 ∨ i = 1 ∨ i = 2 ∨ i = 3 ∨ i = 4 ∨ i = 5 ∨ i = 6 ∨ i = 7 := by omega
    rcases hi' with rfl | rfl | rfl | rfl | rfl | rfl | rfl | rfl <;> (simp at hi; subst hi; simp [Value.ownBlock] at hv)
  have HTE1 := Lib.hid (HTE.out w1 hB1 hr1.box.lt hcap _ _ _ hE1)
  have hI0 : FiI B0 w w.heap.size gs bt bt2 m0 m1 mc policy xs ys [] w1 := ⟨⟨_, hr1⟩, H0.out.2.1.below hWw1 H0.out.2.1.lt, hB1⟩
  have HI0 := Lib.hid hI0
  have hlt4 : gs < w1.heap.size ∧ m0 < w1.heap.size ∧ m1 < w1.heap.size ∧ mc < w1.heap.size := ⟨hr1.box.lt, hr1.mA.lt, hr1.mB.lt, hr1.mC.lt⟩
  have hsb : w.heap.size < w1.heap.size := (H0.out.2.1.below hWw1 H0.out.2.1.lt).lt
  have HL4 := Lib.hid (And.intro hlt4 hsb)
  have HIO := Lib.hid (show OwnM (fun _ => False) w1.heap.size (FiI B0 w w.heap.size gs bt bt2 m0 m1 mc policy xs ys) from OwnM.of_none (fun s A B row hs hg hr => ⟨by
      obtain ⟨pv, hp⟩ := hs.1
      exact ⟨pv, RgIn.ownF hp hlt4 hg hr⟩, blk_ownF hs.2.1 hg (fun r e => (hr r e).2), hs.2.2.grown hg (Nat.le_trans hB0w hs.2.2.size) (fun k hk => Nat.le_trans (Nat.le_trans hB0w hww1.size) (hr k hk).1)⟩))
  have HAF := Lib.hid hWw1
  clear hw1 hb1 hWw1 hE1 hr1 hcap HTE HE H0 hI0 hVW
  go_wp2_with fail
  show mixC _ _ _ _ _ _ _
  refine mix_nil (show Aft W w1 from HAF.out) ?_
  go_wp2_with fail
  refine (wpIn_wide (n := 9)).1 ?_
  refine wpIn_rangeFunc_in (Mine := fun _ => False) (fun _ h => h.elim) rfl (by omega) (gf := 91) (lb := #[.pointer (some ⟨V.heap.size, 0, none⟩), .pointer (some ⟨V.heap.size + 1, 0, none⟩), .pointer (some ⟨V.heap.size + 1 + 1, 0, none⟩)]) rfl trivial (enters_of Tryz.func91 (by kernel_rfl) rfl)
    HTE1.out KeepG.trans (fun W l o o' hl h => keepG_b _ (Nat.le_trans (Nat.le_trans hB0w hww1.size) hl) (Nat.lt_of_lt_of_le HL4.out.1.1 hl) h rfl) (Below.refl _ _) (fun _ => rfl)
    (FiI B0 w w.heap.size gs bt bt2 m0 m1 mc policy xs ys)
    (fun c pre W => False)
    HIO.out
    (fun c => OwnM.of_none (fun _ _ _ _ hs _ _ => hs.elim))
    HI0.out
    ?a1 (fun x W => W.alloc (.cells (eCR x).toArray 119))
    (fun x n₀ pre W => FiI B0 w w.heap.size gs bt bt2 m0 m1 mc policy xs ys pre W ∧ Blk W n₀ 119 (eCR x).toArray) (fun x n₀ => HIO.out.and (OwnM.of_none (Own.from (fun _ A B row hs hg hr => blk_ownF hs hg hr) _))) ?made ?assign ?body ?done ?stop
  case assign =>
    intro l x n0 W hn K hK
    simp only [eCR]
    gi_wp2
    exact hK
  case made =>
    rintro pre x W hI hTl
    have hba := (Below.refl W.heap.size W).alloc (Nat.le_refl _) (.cells (eCR x).toArray 119)
    obtain ⟨⟨pv, hp⟩, hbs, hbl⟩ := hI
    exact ⟨⟨⟨⟨pv, RgIn.below hp hba⟩, hbs.below hba hbs.lt, hbl.trans (hba.mono (Nat.le_trans hB0w hbl.size))⟩, Blk.new _ _ _⟩, keeps_belowF hba, KeepG.below hba (Nat.le_trans hB0w hbl.size) (RgIn.box hp).lt⟩
  case body =>
    rintro l pre x n₀ W ⟨⟨⟨pv, hp⟩, hbs, hbl⟩, hX⟩ hTl hszW
    obtain ⟨r, hr⟩ := hTl
    obtain ⟨hnm, hcl, hpm, hpth⟩ := HFS.out pre r x (by rw [← hr]; simp)
    have hqz := HPZ.out _ hpm
    have hpl : pre.length + 1 ≤ 6000 := by have := congrArg List.length hr; simp at this; omega
    have hfx : (pre ++ [x]).map (firstN policy xs ys) = pre.map (firstN policy xs ys) ++ [firstN policy xs ys x] := by rw [List.map_append]; rfl
    obtain ⟨nx, hnx⟩ : ∃ n, firstN policy xs ys x = n := ⟨_, rfl⟩
    have hfn : chosenN xs ys (sideF policy x) x.path (if x.verdict = 3 then x.cls else 0) = nx := hnx
    have hsf : sideF policy x = if x.verdict = 1 then 2 else if x.verdict = 2 then 1 else if x.verdict = 3 then sideN policy (oneN x.path x.left) (oneN x.path x.right) else 0 := rfl
    rw [hnx] at hfx
    clear hr hpm hnx
    have hlen1 : (pre ++ [x]).length = pre.length + 1 := by simp
    obtain ⟨q, vd, cl, ⟨ak, am, at', ad⟩, ⟨ck, cm, ct, cd⟩⟩ := x
    simp only at hnm hcl hqz hfn hsf
    obtain ⟨side, hsd⟩ : ∃ s, sideF policy ⟨q, vd, cl, ⟨ak, am, at', ad⟩, ⟨ck, cm, ct, cd⟩⟩ = s := ⟨_, rfl⟩
    rw [hsd] at hfn hsf
    clear hsd
    have hnp : nx.path = q := by rw [← hfn]; rfl
    have hqk : okT q := Nat.le_trans hqz (by unfold maxLen; omega)
    obtain ⟨L, hL⟩ : ∃ L, pre.map (firstN policy xs ys) = L := ⟨_, rfl⟩
    rw [hL] at hnm hfx hpth hp
    obtain ⟨N, hN⟩ : ∃ n, pre.length = n := ⟨_, rfl⟩
    have hLl : (L.map NP.path).length = N := by rw [← hL, List.length_map, List.length_map, hN]
    rw [hN] at hp hpl hlen1
    unfold RgAt at hp
    have hrp := hp.rp
    rw [hLl] at hrp
    obtain ⟨Ap, cp, rfl, -, -, -⟩ := SlV_of_any hrp
    have hB0W : B0 ≤ W.heap.size := Nat.le_trans hB0w hbl.size
    simp only [eCR, List.toArray] at hX
    have hlkA : lkN NP.left (L ++ [nx]) = updV (lkN NP.left L) q (.agg nx.left.c) := by rw [← hnp]; exact lkN_append (by rw [hnp]; exact hnm)
    have hlkB : lkN NP.right (L ++ [nx]) = updV (lkN NP.right L) q (.agg nx.right.c) := by rw [← hnp]; exact lkN_append (by rw [hnp]; exact hnm)
    have hlkC : lkC (L ++ [nx]) = if nx.cls = 0 then lkC L else updV (lkC L) q (.int .i64 nx.cls) := by rw [← hnp]; exact lkC_append (by rw [hnp]; exact hnm)
    have hpx : (L ++ [nx]).map NP.path = L.map NP.path ++ [q] := by rw [List.map_append, ← hnp]; rfl
    -- the close of a round
    have hclose : ∀ (W4 W5 : World) (pv4 : Value) (M : Nat) (fc4 : ByteArray → Option Value), M + 1 ≤ 2 * N + 2 → RgIn B0 W4 gs bt bt2 m0 m1 mc M policy pv4 (.slice none 0 0) (L.map NP.path ++ [q]) [] (lkN NP.left L) (lkN NP.right L) fc4 → fc4 = lkC (L ++ [nx]) → MapV W5 Tryz.prog 9 litT okT m0 (M + 1) (updV (lkN NP.left L) q (.agg (chosenN xs ys side q 0).left.c)) → MapV W5 Tryz.prog 9 litT okT m1 (M + 1) (updV (lkN NP.right L) q (.agg (chosenN xs ys side q 0).right.c)) → TurnB (mapsF m0 m1) W4 W5 → TurnB (fun i => i = gs ∨ i = m0 ∨ i = m1 ∨ i = mc ∨ (Value.slice Ap N cp).ownBlock = some i) W W4 → (∀ g, pv4.ownBlock = some g → (Value.slice Ap N cp).ownBlock = some g ∨ W.heap.size ≤ g) → Blk W4 w.heap.size 70 #[.pointer (some ⟨gs, 0, none⟩)] →
        KeepsFrom w1.heap.size W W5 ∧ KeepG B0 tsG 9 gs W W5 ∧ FiI B0 w w.heap.size gs bt bt2 m0 m1 mc policy xs ys (pre ++ [⟨q, vd, cl, ⟨ak, am, at', ad⟩, ⟨ck, cm, ct, cd⟩⟩]) W5 := fun W4 W5 pv4 M fc4 hM hR4 hfc hA hB ht45 htW hpv hbs4 => by
      have e1 : (chosenN xs ys side q 0).left = nx.left := by rw [← hfn]; rfl
      have e2 : (chosenN xs ys side q 0).right = nx.right := by rw [← hfn]; rfl
      rw [e1, ← hlkA] at hA
      rw [e2, ← hlkB] at hB
      have hR5 := (hR4.maps ht45 (Nat.le_succ M) hA hB).more hM
      have htn : TurnB (fun i => i = gs ∨ i = m0 ∨ i = m1 ∨ i = mc ∨ (Value.slice Ap N cp).ownBlock = some i) W W5 := htW.trans ht45 (fun j hj => .inl (.inr (by rcases hj with rfl | rfl; exact .inl rfl; exact .inr (.inl rfl))))
      have hkg := keepG_reg hp hR5 htn hpv
      refine ⟨keepsF_reg hp HL4.out.1 htn, hkg, ⟨⟨pv4, ?_⟩, ?_, hbl.trans hkg.keep.low⟩⟩
      · unfold RgAt
        rw [hfx, hpx, hlen1, ← hfc]
        have := hR5
        rw [show 2 * (N + 1) = 2 * N + 2 by omega]
        exact this
      · refine hbs4.turnB ht45 (fun hf => ?_)
        rcases hf with e | e
        · exact map_noblk hR4.mA (e ▸ hbs4)
        · exact map_noblk hR4.mB (e ▸ hbs4)
    have HCL := Lib.hid hclose
    clear hclose
    have hC : CFi w.heap.size gs n₀ #[.pointer (some ⟨bt, 0, none⟩), .pointer (some ⟨bt2, 0, none⟩), .int .i64 policy, .slice Ap N cp, .map (some m0), .map (some m1), .map (some mc), .slice none 0 0] #[.string q, .int .i64 vd, .int .i64 cl, .int .i64 ak, .int .i64 am, .int .u32 at', .string ad, .int .i64 ck, .int .i64 cm, .int .u32 ct, .string cd] W.drew := ⟨hbs.drew, hp.box.drew, hX.drew⟩
    have HC := Lib.hid hC
    have HP := Lib.hid (And.intro hp (And.intro hbs (And.intro hbl (And.intro hX hrp))))
    have HQ := Lib.hid (And.intro hnm (And.intro hcl (And.intro hqz (And.intro hqk (And.intro hfn (And.intro hsf (And.intro hlkC hLl)))))))
    clear hp hbs hbl hX hrp hnm hcl hfn hsf hlkA hlkB hlkC hpx hpth hfx hL hC hLl hnp hlen1
    gi_wp2
    have q0 : ∀ m : Held (CFi w.heap.size gs n₀ #[.pointer (some ⟨bt, 0, none⟩), .pointer (some ⟨bt2, 0, none⟩), .int .i64 policy, .slice Ap N cp, .map (some m0), .map (some m1), .map (some mc), .slice none 0 0] #[.string q, .int .i64 vd, .int .i64 cl, .int .i64 ak, .int .i64 am, .int .u32 at', .string ad, .int .i64 ck, .int .i64 cm, .int .u32 ct, .string cd]), (HeldW m).cell? ⟨w.heap.size, 0, none⟩ = some (.pointer (some ⟨gs, 0, none⟩)) := fun m => by have := (HeldW_spec m).1.cell 0; simpa using this
    have q1 : ∀ m : Held (CFi w.heap.size gs n₀ #[.pointer (some ⟨bt, 0, none⟩), .pointer (some ⟨bt2, 0, none⟩), .int .i64 policy, .slice Ap N cp, .map (some m0), .map (some m1), .map (some mc), .slice none 0 0] #[.string q, .int .i64 vd, .int .i64 cl, .int .i64 ak, .int .i64 am, .int .u32 at', .string ad, .int .i64 ck, .int .i64 cm, .int .u32 ct, .string cd]), (HeldW m).cell? ⟨gs, 3, none⟩ = some (.slice Ap N cp) := fun m => by have := (HeldW_spec m).2.1.cell 3; simpa using this
    have q2 : ∀ m : Held (CFi w.heap.size gs n₀ #[.pointer (some ⟨bt, 0, none⟩), .pointer (some ⟨bt2, 0, none⟩), .int .i64 policy, .slice Ap N cp, .map (some m0), .map (some m1), .map (some mc), .slice none 0 0] #[.string q, .int .i64 vd, .int .i64 cl, .int .i64 ak, .int .i64 am, .int .u32 at', .string ad, .int .i64 ck, .int .i64 cm, .int .u32 ct, .string cd]), (HeldW m).cell? ⟨n₀, 0, none⟩ = some (.string q) := fun m => by have := (HeldW_spec m).2.2.cell 0; simpa using this
    refine wpIn_region_mixD (CFi w.heap.size gs n₀ #[.pointer (some ⟨bt, 0, none⟩), .pointer (some ⟨bt2, 0, none⟩), .int .i64 policy, .slice Ap N cp, .map (some m0), .map (some m1), .map (some mc), .slice none 0 0] #[.string q, .int .i64 vd, .int .i64 cl, .int .i64 ak, .int .i64 am, .int .u32 at', .string ad, .int .i64 ck, .int .i64 cm, .int .u32 ct, .string cd]) [(0, true), (1, true), (2, true), (3, true), (4, true), (5, true), (6, true), (7, false), (8, false), (9, true), (10, true), (11, false)] (by kernel_rfl) (by kernel_rfl) ?_
    simp only [pickP, List.filterMap_cons, List.filterMap_nil, List.getElem?_toArray, List.getElem?_cons_succ, List.getElem?_cons_zero, Option.map_some]
    repeat (apply mixD_first; apply Exists.intro; refine ⟨fun m => ?_, HC.out, ?_⟩; · (go_big_quiet_step (fail); exact wpQuiet_nil rfl))
    obtain ⟨U1, hU1⟩ : ∃ U, W.drew.alloc (.cells #[.string q] 9) = U := ⟨_, rfl⟩
    obtain ⟨gU, hgU⟩ : ∃ g, W.drew.heap.size = g := ⟨_, rfl⟩
    have hbU : Below W.drew.heap.size W.drew U1 := by rw [← hU1]; exact (Below.refl _ _).alloc (Nat.le_refl _) _
    have hbU0 : Below W.heap.size W U1 := (show Below W.heap.size W W.drew from (Below.refl _ W).drew).trans hbU
    have hBq : Blk U1 gU 9 #[.string q] := by rw [← hU1, ← hgU]; exact Blk.new _ _ _
    have hszU : U1.heap.size = gU + 1 := by rw [← hU1, ← hgU]; simp
    have HU := Lib.hid (And.intro hbU0 (And.intro hBq (And.intro (HC.out.below hbU) hszU)))
    have HGU := Lib.hid (show gU = W.heap.size by rw [← hgU]; rfl)
    refine mixD_forced HC.out ?_
    clear hbU hbU0 hBq hszU
    go_wp2_with fail
    show mixD _ _ _ _ _ _ _
    clear hU1 hgU
    refine mixD_forced HU.out.2.2.1 ?_
    go_wp2_with (at_builtin; go_loud (refine wpList_app rfl _ _ 34 rfl B0 9 (.string ⟨#[]⟩) 1 16 Tryz.underlying34 infoStrR rfl (by decide) _ N ((L.map NP.path).map Value.string) rfl (own_kept HP.out.2.2.2.2 HU.out.1) gU 1 #[.string q] 9 rfl HU.out.2.1 rfl (by simp [Value.oneCell']) (by omega) (by decide) (Nat.le_trans hB0W HU.out.1.size) _ rfl ?_; intro g cap U2 ho2 hg2 hat2 hlt2))
    have hRP := HP.out.1.path HU.out.1 hg2 HQ.out.2.2.2.2.2.2.2 ho2 hat2
    have hC2 : CFi w.heap.size gs n₀ #[.pointer (some ⟨bt, 0, none⟩), .pointer (some ⟨bt2, 0, none⟩), .int .i64 policy, .slice Ap N cp, .map (some m0), .map (some m1), .map (some mc), .slice none 0 0] #[.string q, .int .i64 vd, .int .i64 cl, .int .i64 ak, .int .i64 am, .int .u32 at', .string ad, .int .i64 ck, .int .i64 cm, .int .u32 ct, .string cd] U2 := by
      have hne : ∀ g' t cs, Blk U1 g' t cs → ¬ t = 9 → Blk U2 g' t cs := fun g' t cs hb ht => hb.grown hg2 (fun e => by
        obtain ⟨cur, hc⟩ := own_blkB (own_kept HP.out.2.2.2.2 HU.out.1) e.symm
        exact Blk.other hb hc ht rfl)
      exact ⟨hne _ _ _ HU.out.2.2.1.1 (by decide), hne _ _ _ HU.out.2.2.1.2.1 (by decide), hne _ _ _ HU.out.2.2.1.2.2 (by decide)⟩
    have HC2 := Lib.hid hC2
    have HRP := Lib.hid (And.intro hRP hat2)
    clear hRP hC2 ho2 hg2 hat2 hlt2
    show mixD _ _ _ _ _ _ _
    repeat (apply mixD_first; apply Exists.intro; refine ⟨fun m => ?_, HC2.out, ?_⟩; · (go_big_quiet_step (fail); exact wpQuiet_nil rfl))
    clear q0 q1 q2
    have c3 := HC2.out.2.1.cell 3
    have f3 := HC2.out.2.1.frozen 3
    simp only [List.getElem?_toArray, List.getElem?_cons_succ, List.getElem?_cons_zero] at c3
    refine mixD_forced HC2.out ?_
    obtain ⟨W3, hW3⟩ : ∃ X, U2.setCell ⟨gs, 3, none⟩ (.slice (some ⟨g, 0, none⟩) (N + 1) cap) = X := ⟨_, rfl⟩
    have HW3 := Lib.hid hW3
    clear hW3
    go_wp2_with fail
    show mixD _ _ _ _ _ _ _
    rw [HW3.out]
    clear c3 f3
    refine mixD_nil ?_
    have hR3 := HRP.out.1.1
    rw [HW3.out] at hR3
    have ht3 := HRP.out.1.2
    rw [HW3.out] at ht3
    have hne3 : ∀ g' t cs, Blk U2 g' t cs → ¬ t = 76 → Blk W3 g' t cs := fun g' t cs hb ht => by
      have h9 : g' ≠ gs := fun e => Blk.other hb HC2.out.2.1 ht e
      have := Below.heap_setCell U2 ⟨gs, 3, none⟩ (.slice (some ⟨g, 0, none⟩) (N + 1) cap) g' h9
      rw [HW3.out] at this
      unfold Blk at hb ⊢
      rw [this, hb]
    have hbs3 := hne3 _ _ _ HC2.out.1 (by decide)
    have hX3 := hne3 _ _ _ HC2.out.2.2 (by decide)
    have hpv3 : ∀ g', (Value.slice (some ⟨g, 0, none⟩) (N + 1) cap).ownBlock = some g' → (Value.slice Ap N cp).ownBlock = some g' ∨ W.heap.size ≤ g' := fun g' h => by
      have e : g' = g := by simpa [Value.ownBlock] using h.symm
      subst e
      rcases HRP.out.2 with e | e
      · exact .inl e
      · right; have := HU.out.2.2.2; have := HGU.out; omega
    have ht3' : TurnB (fun i => i = gs ∨ i = m0 ∨ i = m1 ∨ i = mc ∨ (Value.slice Ap N cp).ownBlock = some i) W W3 := ht3.mono (fun i hi => hi.elim .inl (fun h => .inr (.inr (.inr (.inr h)))))
    have hB3 : Below B0 w W3 := HP.out.2.2.1.trans (ht3.to_below hB0W (fun i hi => hi.elim (fun e => by rw [e]; exact HP.out.1.bs) (fun e => (HP.out.2.2.2.2.lt i e).1)))
    have H3 := Lib.hid (And.intro hR3 (And.intro ht3' (And.intro hbs3 (And.intro hX3 (And.intro hpv3 hB3)))))
    have x0 := hX3.cell 0
    have x1 := hX3.cell 1
    have b0 := hbs3.cell 0
    simp only [List.getElem?_toArray, List.getElem?_cons_succ, List.getElem?_cons_zero] at x0 x1 b0
    clear hR3 ht3 hne3 hbs3 hX3 hpv3 ht3' hB3
    have HTK := Lib.hid (fun (W4 : World) (M : Nat) (fc4 : ByteArray → Option Value) (hM : M ≤ 20000) (hR4 : RgIn B0 W4 gs bt bt2 m0 m1 mc M policy (.slice (some ⟨g, 0, none⟩) (N + 1) cap) (.slice none 0 0) (L.map NP.path ++ [q]) [] (lkN NP.left L) (lkN NP.right L) fc4) (hB4 : Below B0 w W4) => regTake_any W4 gs bt bm bt2 bm2 m0 m1 mc M policy _ _ _ _ xs ys q side hR4.box hR4.mA hR4.mB hR4.n01 (by unfold maxLen; omega) (HTR.out.1 W4 hB4) (HTR.out.2 W4 hB4) (by omega) (by omega) hqz)
    by_cases hv1 : vd = 1
    · subst hv1
      have hsd : side = 2 := by rw [HQ.out.2.2.2.2.2.1]; rfl
      subst hsd
      gi_wp2
      refine ((callsIn_wide.2 (HTK.out W3 (2 * N) _ (by omega) H3.out.1 H3.out.2.2.2.2.2)).inRound l).mono ?_
      rintro e W5 ⟨rfl, hA, hB, ht⟩
      have hcl0 : nx.cls = 0 := by rw [← HQ.out.2.2.2.2.1]; simp [chosenN]
      have hfin := HCL.out W3 W5 _ (2 * N) _ (by omega) H3.out.1 (by rw [HQ.out.2.2.2.2.2.2.1, if_pos hcl0]) hA hB ht H3.out.2.1 H3.out.2.2.2.2.1 H3.out.2.2.1
      have HFIN := Lib.hid hfin
      clear hfin hA hB ht hcl0
      gi_wp2
      exact HFIN.out
    · have t1 : (vd == 1) = false := by simpa using hv1
      by_cases hv2 : vd = 2
      · subst hv2
        have hsd : side = 1 := by rw [HQ.out.2.2.2.2.2.1]; rfl
        subst hsd
        gi_wp2
        refine ((callsIn_wide.2 (HTK.out W3 (2 * N) _ (by omega) H3.out.1 H3.out.2.2.2.2.2)).inRound l).mono ?_
        rintro e W5 ⟨rfl, hA, hB, ht⟩
        have hcl0 : nx.cls = 0 := by rw [← HQ.out.2.2.2.2.1]; simp [chosenN]
        have hfin := HCL.out W3 W5 _ (2 * N) _ (by omega) H3.out.1 (by rw [HQ.out.2.2.2.2.2.2.1, if_pos hcl0]) hA hB ht H3.out.2.1 H3.out.2.2.2.2.1 H3.out.2.2.1
        have HFIN := Lib.hid hfin
        clear hfin hA hB ht hcl0
        gi_wp2
        exact HFIN.out
      · have t2 : (vd == 2) = false := by simpa using hv2
        by_cases hv3 : vd = 3
        · subst hv3
          gi_wp2
          have hs3 : sideN policy (oneN q ⟨ak, am, at', ad⟩) (oneN q ⟨ck, cm, ct, cd⟩) = side := by rw [HQ.out.2.2.2.2.2.1]; rfl
          have hcl0 := HQ.out.2.1 (by first | rfl | trivial)
          have hncl : nx.cls = cl := by rw [← HQ.out.2.2.2.2.1]; rfl
          have r2 := H3.out.1.box.cell 2
          have r6 := H3.out.1.box.cell 6
          have hgl := H3.out.1.box.lt
          simp only [List.getElem?_toArray, List.getElem?_cons_succ, List.getElem?_cons_zero] at r2 r6
          have KC : ∀ (m : Held (Aft W3)) (k : Nat) (v : Value), (#[.string q, .int .i64 3, .int .i64 cl, .int .i64 ak, .int .i64 am, .int .u32 at', .string ad, .int .i64 ck, .int .i64 cm, .int .u32 ct, .string cd] : Array Value)[k]? = some v → (HeldW m).cell? ⟨n₀, k, none⟩ = some v := fun m k v hk => (Aft.cell m H3.out.2.2.2.1.lt).trans (by rw [H3.out.2.2.2.1.cell]; exact hk)
          have q0 : ∀ m : Held (Aft W3), (HeldW m).cell? ⟨w.heap.size, 0, none⟩ = some (.pointer (some ⟨gs, 0, none⟩)) := fun m => (Aft.cell m H3.out.2.2.1.lt).trans b0
          have q1 : ∀ m : Held (Aft W3), (HeldW m).cell? ⟨gs, 2, none⟩ = some (.int .i64 policy) := fun m => (Aft.cell m hgl).trans r2
          have k0 : ∀ m : Held (Aft W3), (HeldW m).cell? ⟨n₀, 0, none⟩ = some (.string q) := fun m => KC m 0 _ rfl
          have k3 : ∀ m : Held (Aft W3), (HeldW m).cell? ⟨n₀, 3, none⟩ = some (.int .i64 ak) := fun m => KC m 3 _ rfl
          have k4 : ∀ m : Held (Aft W3), (HeldW m).cell? ⟨n₀, 4, none⟩ = some (.int .i64 am) := fun m => KC m 4 _ rfl
          have k5 : ∀ m : Held (Aft W3), (HeldW m).cell? ⟨n₀, 5, none⟩ = some (.int .u32 at') := fun m => KC m 5 _ rfl
          have k6 : ∀ m : Held (Aft W3), (HeldW m).cell? ⟨n₀, 6, none⟩ = some (.string ad) := fun m => KC m 6 _ rfl
          have k7 : ∀ m : Held (Aft W3), (HeldW m).cell? ⟨n₀, 7, none⟩ = some (.int .i64 ck) := fun m => KC m 7 _ rfl
          have k8 : ∀ m : Held (Aft W3), (HeldW m).cell? ⟨n₀, 8, none⟩ = some (.int .i64 cm) := fun m => KC m 8 _ rfl
          have k9 : ∀ m : Held (Aft W3), (HeldW m).cell? ⟨n₀, 9, none⟩ = some (.int .u32 ct) := fun m => KC m 9 _ rfl
          have k10 : ∀ m : Held (Aft W3), (HeldW m).cell? ⟨n₀, 10, none⟩ = some (.string cd) := fun m => KC m 10 _ rfl
          have HK3 := Lib.hid (And.intro hs3 (And.intro hcl0 hncl))
          have HA0 := Lib.hid (Aft.start W3)
          clear hs3 hcl0 hncl KC r2 r6 x0 x1 b0
          refine wpIn_region_mixD (Aft W3) [(0, true), (1, true), (2, true), (3, true), (4, true), (5, true), (6, true), (7, true), (9, true), (10, true), (11, true), (12, true), (8, false), (13, false), (14, false), (15, false)] (by kernel_rfl) (by kernel_rfl) ?_
          simp only [pickP, List.filterMap_cons, List.filterMap_nil, List.getElem?_toArray, List.getElem?_cons_succ, List.getElem?_cons_zero, Option.map_some]
          repeat (apply mixD_first; apply Exists.intro; refine ⟨fun m => ?_, HA0.out, ?_⟩; · (go_big_quiet_step (fail); exact wpQuiet_nil rfl))
          refine mixD_forced HA0.out ?_
          go_wp2_with fail
          refine (regItems_any _ q ⟨ak, am, at', ad⟩).mono ?_
          rintro e W6 ⟨r1', rfl, ho1, hb6⟩
          have HA6 := Lib.hid (show Aft W3 W6 from Aft.keep _ _ HA0.out hb6)
          have HO1 := Lib.hid ho1.slv
          obtain ⟨A6, c6, rfl, -, -, -⟩ := SlV_of_any ho1
          clear ho1 hb6 HA0
          go_wp2_with fail
          show mixD _ _ _ _ _ _ _
          refine mixD_forced HA6.out ?_
          go_wp2_with fail
          refine (regItems_any _ q ⟨ck, cm, ct, cd⟩).mono ?_
          rintro e W7 ⟨r2', rfl, ho2, hb7⟩
          have HA7 := Lib.hid (show Aft W3 W7 from Aft.keep _ _ HA6.out hb7)
          have HSD := Lib.hid (regSide_any W7 policy _ r2' (oneN q ⟨ak, am, at', ad⟩) (oneN q ⟨ck, cm, ct, cd⟩) (HO1.out.below hb7 (Nat.le_refl _)) ho2.slv)
          rw [HK3.out.1] at HSD
          obtain ⟨A7, c7, rfl, -, -, -⟩ := SlV_of_any ho2
          clear ho2 hb7 HA6 HO1
          generalize (oneN q ⟨ak, am, at', ad⟩).length = e1 at *
          generalize (oneN q ⟨ck, cm, ct, cd⟩).length = e2 at *
          go_wp2_with fail
          show mixD _ _ _ _ _ _ _
          refine mixD_forced HA7.out ?_
          go_wp2_with fail
          refine HSD.out.mono ?_
          rintro e W8 ⟨rfl, hb8⟩
          have HA8 := Lib.hid (show Aft W3 W8 from Aft.keep _ _ HA7.out hb8)
          clear hb8 HA7 HSD
          go_wp2_with fail
          show mixD _ _ _ _ _ _ _
          refine mixD_forced HA8.out ?_
          go_wp2_with fail
          show mixD _ _ _ _ _ _ _
          refine mixD_nil ?_
          clear q0 q1 k0 k3 k4 k5 k6 k7 k8 k9 k10 hgl
          have h38 : Below W3.heap.size W3 W8 := HA8.out
          have hR8 := H3.out.1.below h38
          have hbs8 := H3.out.2.2.1.below h38 H3.out.2.2.1.lt
          have hX8 := H3.out.2.2.2.1.below h38 H3.out.2.2.2.1.lt
          have y0 := hbs8.cell 0
          have y6 := hR8.box.cell 6
          have z0 := hX8.cell 0
          have z2 := hX8.cell 2
          simp only [List.getElem?_toArray, List.getElem?_cons_succ, List.getElem?_cons_zero] at y0 y6 z0 z2
          have q0 : ∀ m : Held (Aft W8), (HeldW m).cell? ⟨w.heap.size, 0, none⟩ = some (.pointer (some ⟨gs, 0, none⟩)) := fun m => (Aft.cell m hbs8.lt).trans y0
          have q1 : ∀ m : Held (Aft W8), (HeldW m).cell? ⟨gs, 6, none⟩ = some (.map (some mc)) := fun m => (Aft.cell m hR8.box.lt).trans y6
          have k0 : ∀ m : Held (Aft W8), (HeldW m).cell? ⟨n₀, 0, none⟩ = some (.string q) := fun m => (Aft.cell m hX8.lt).trans z0
          have k2 : ∀ m : Held (Aft W8), (HeldW m).cell? ⟨n₀, 2, none⟩ = some (.int .i64 cl) := fun m => (Aft.cell m hX8.lt).trans z2
          have H8 := Lib.hid (And.intro hR8 (And.intro hbs8 (And.intro hX8 (And.intro (H3.out.2.1.below h38) (H3.out.2.2.2.2.2.trans (h38.mono (Nat.le_trans hB0w H3.out.2.2.2.2.2.size)))))))
          have HB0 := Lib.hid (Aft.start W8)
          clear h38 hR8 hbs8 hX8 y0 y6 z0 z2
          gi_wp2
          refine wpIn_region_mixD (Aft W8) [(0, true), (1, true), (2, true), (3, true), (4, true), (5, true), (6, true), (7, true), (8, false)] (by kernel_rfl) (by kernel_rfl) ?_
          simp only [pickP, List.filterMap_cons, List.filterMap_nil, List.getElem?_toArray, List.getElem?_cons_succ, List.getElem?_cons_zero, Option.map_some]
          repeat (apply mixD_first; apply Exists.intro; refine ⟨fun m => ?_, HB0.out, ?_⟩; · (go_big_quiet_step (fail); exact wpQuiet_nil rfl))
          refine mixD_forced HB0.out ?_
          clear q0 q1 k0 k2
          go_wp2_with (at_mapUpdate; go_loud (refine wpList_storeV rfl _ _ _ 72 rfl 3 (keyStr Tryz.underlying9) Tryz.underlying72 mc (2 * N) _ rfl (H8.out.1.below HB0.out).mC (by unfold maxLen; omega) q rfl hqk (.int .i64 cl) rfl ?_; intro W9 hm9 hg9))
          have hR9 := (H8.out.1.below HB0.out).clash hg9 (Nat.le_succ _) hm9
          have hnmc : ∀ g' t cs, Blk W8 g' t cs → Blk W9 g' t cs := fun g' t cs hb => (hb.below HB0.out hb.lt).grown hg9 (fun e => by
            have e' : g' = mc := by simpa using e
            exact map_noblk H8.out.1.mC (e' ▸ hb))
          have H9 := Lib.hid (And.intro hR9 (And.intro (hnmc _ _ _ H8.out.2.1) (And.intro (hnmc _ _ _ H8.out.2.2.1) (And.intro ((H8.out.2.2.2.1.below HB0.out).grown hg9 (fun k hk => by cases hk; exact .inl (.inr (.inr (.inr (.inl rfl)))))) ((H8.out.2.2.2.2.trans ((HB0.out : Below W8.heap.size W8 W8.drew).mono (Nat.le_trans hB0w H8.out.2.2.2.2.size))).grown hg9 (Nat.le_trans hB0w (Nat.le_trans H8.out.2.2.2.2.size (HB0.out : Below W8.heap.size W8 W8.drew).size)) (fun k hk => by cases hk; exact H8.out.1.bc))))))
          clear hR9 hnmc hm9 hg9
          show mixD _ _ _ _ _ _ _
          refine mixD_nil ?_
          have y0 := H9.out.2.1.cell 0
          have z0 := H9.out.2.2.1.cell 0
          simp only [List.getElem?_toArray, List.getElem?_cons_succ, List.getElem?_cons_zero] at y0 z0
          gi_wp2
          refine ((callsIn_wide.2 (HTK.out W9 (2 * N + 1) _ (by omega) H9.out.1 H9.out.2.2.2.2)).inRound l).mono ?_
          rintro e W5 ⟨rfl, hA, hB, ht⟩
          have hfin := HCL.out W9 W5 _ (2 * N + 1) _ (by omega) H9.out.1 (by rw [HQ.out.2.2.2.2.2.2.1, if_neg (by rw [HK3.out.2.2]; exact HK3.out.2.1), HK3.out.2.2]) hA hB ht H9.out.2.2.2.1 H3.out.2.2.2.2.1 H9.out.2.1
          have HFIN := Lib.hid hfin
          clear hfin hA hB ht
          gi_wp2
          exact HFIN.out
        · have t3 : (vd == 3) = false := by simpa using hv3
          have hsd : side = 0 := by rw [HQ.out.2.2.2.2.2.1, if_neg hv1, if_neg hv2, if_neg hv3]
          subst hsd
          gi_wp2
          refine ((callsIn_wide.2 (HTK.out W3 (2 * N) _ (by omega) H3.out.1 H3.out.2.2.2.2.2)).inRound l).mono ?_
          rintro e W5 ⟨rfl, hA, hB, ht⟩
          have hcl0 : nx.cls = 0 := by rw [← HQ.out.2.2.2.2.1]; simp [chosenN, hv3]
          have hfin := HCL.out W3 W5 _ (2 * N) _ (by omega) H3.out.1 (by rw [HQ.out.2.2.2.2.2.2.1, if_pos hcl0]) hA hB ht H3.out.2.1 H3.out.2.2.2.2.1 H3.out.2.2.1
          have HFIN := Lib.hid hfin
          clear hfin hA hB ht hcl0
          gi_wp2
          exact HFIN.out
  case done =>
    rintro D zs W hD hzs ⟨⟨pv, hp⟩, hbs, hbl⟩ hK
    subst hD
    have hz : zs = ans := hzs
    subst hz
    have HP := Lib.hid (And.intro hp hbl)
    clear hp hbs hbl hzs
    go_wp2_with fail
    have hgp := grownBy_putObj' W w1.heap.size (.deferred none)
    have hr9 := (RgIn.ownF HP.out.1 HL4.out.1 hgp (fun r e => by cases e; exact ⟨Nat.le_refl _, _, hK, rfl⟩)).more (M := 12000) (by omega)
    have hb9 := HP.out.2.grown hgp (Nat.le_trans hB0w HP.out.2.size) (fun k hk => by cases hk; exact Nat.le_trans hB0w hww1.size)
    refine ⟨by simp, .inl ⟨_, _, rfl, run_takeDeferred hK, ?_⟩⟩
    exact ⟨_, results_none rfl _ _ _, rfl, _, hr9, hb9⟩
  case stop =>
    rintro D c pre W hD _ hF
    exact hF.elim
end Go.Proofs.YtnpehjgnplaabaaGreatDoor
/- Several texts, joined for the limit of sixty files; each one opens with its own comment. -/
/- The reference's rows of items: Set. -/
set_option linter.unusedVariables false
set_option linter.unusedSimpArgs false
namespace Go.Proofs.YtnpehjgnplaabaaGreatDoor
open Go Go.RowKit
open Sw
/-- where the reference's Set stands -/
def SetAt (w : World) (T : Nat) (n : Nd) (L : List NE) (ov : Value) (wr : World) : Prop := OwnIt wr T ov L ∧ Blk wr T 57 n.c ∧ Below T w wr
theorem SetAt.below {w wr wr' : World} {T : Nat} {n : Nd} {L : List NE} {ov : Value} (h : SetAt w T n L ov wr) (hb : Below wr.heap.size wr wr') : SetAt w T n L ov wr' :=
  ⟨h.1.below hb, h.2.1.below hb h.2.1.lt, h.2.2.trans (hb.mono (Nat.le_of_lt h.2.1.lt))⟩
theorem SetAt.app {w wr w0 w5 : World} {T g cap m : Nat} {n : Nd} {L : List NE} {ov : Value} {x : NE} (h : SetAt w T n L ov wr) (hm : L.length = m) (hb : Below wr.heap.size wr w0)
    (hown : w5.ownsRow T 59 5 (.slice (some ⟨g, 0, none⟩) (m + 1) cap) (m + 1) (L.flatMap eCSN ++ [.string x.1, .int .i64 x.2.kind, .int .i64 x.2.mode, .int .u32 x.2.time, .string x.2.data])) (hg : w0.grownBy w5 ov.ownBlock) : SetAt w T n (L ++ [x]) (.slice (some ⟨g, 0, none⟩) (m + 1) cap) w5 := by
  have h0 := h.below hb
  exact ⟨OwnIt.app hown hm, h0.2.1.grown hg (fun e => own_ne_blk h0.1 h0.2.1 (by decide) e.symm), h0.2.2.grown hg (Nat.le_of_lt h0.2.1.lt) (fun k hk => (h0.1.lt k hk).1)⟩
end Go.Proofs.YtnpehjgnplaabaaGreatDoor
/- The reference's rows of items: Drop. -/
set_option linter.unusedVariables false
set_option linter.unusedSimpArgs false
namespace Go.Proofs.YtnpehjgnplaabaaGreatDoor
open Go Go.RowKit
open Sw
end Go.Proofs.YtnpehjgnplaabaaGreatDoor
/- XDosRef with names that do not clash with the name texts (made from it by sed). -/
set_option linter.unusedVariables false
namespace Go.Proofs.YtnpehjgnplaabaaGreatDoor
open Go.RowKit
open Sw
end Go.Proofs.YtnpehjgnplaabaaGreatDoor
