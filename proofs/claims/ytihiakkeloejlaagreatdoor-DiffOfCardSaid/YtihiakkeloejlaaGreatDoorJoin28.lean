/- Several texts, joined for the limit of sixty files; each one opens with its own comment. -/
import Derived.Test.YtihiakkeloejlaaGreatDoorJoin27
import Derived.Test.YtihiakkeloejlaaGreatDoorJoin25
import Derived.Test.YtihiakkeloejlaaGreatDoorJoin26
import Derived.Test.YtihiakkeloejlaaGreatDoorJoin22
/- diff.Each$1: how two trees differ, told one by one. -/
set_option linter.unusedVariables false
set_option linter.unusedSimpArgs false
namespace Go.Proofs.YtihiakkeloejlaaGreatDoor
open Go Go.RowKit Go.Shelf
open Sw
attribute [local go_sem] Oper.semAt_some
/-- what the iterator wants kept -/
def KeepOkD (ts : List TypeId) : Prop := ¬ 95 ∈ ts ∧ ¬ 87 ∈ ts ∧ ¬ 101 ∈ ts ∧ ¬ 61 ∈ ts
theorem keep_join {B0 : Nat} {ts : List TypeId} (hts : KeepOkD ts) {V V' : World} {b1 b2 b3 : Nat} {v1 v2 o3 : Value} (hb1 : Blk V b1 95 #[v1]) (hb2 : Blk V b2 95 #[v2]) (hb3 : Blk V b3 87 #[o3])
    (r1 : RowIn V 101 v1) (r2 : RowIn V 101 v2) (hk : KeepR B0 ts V V') : KeepP (JoinK b1 b2 b3 v1 v2) V V' := by
  have same : ∀ g t cs, Blk V g t cs → ¬ t ∈ ts → V'.heap[g]? = V.heap[g]? := fun g t cs h ht => by
    have h2 := hk.row _ _ _ h ht
    unfold Blk at h h2
    rw [h, h2]
  refine ⟨hk.low.size, fun g hg => ?_⟩
  rcases hg with rfl | rfl | rfl | h | h
  · exact same _ _ _ hb1 hts.1
  · exact same _ _ _ hb2 hts.1
  · exact same _ _ _ hb3 hts.2.1
  · obtain ⟨cs, hc⟩ := r1 g h; exact same _ _ _ hc hts.2.2.1
  · obtain ⟨cs, hc⟩ := r2 g h; exact same _ _ _ hc hts.2.2.1
/-- behind some words of the join -/
structure DeI (J : List ChE → World → Prop) (gy l b1 b2 b3 : Nat) (v1 v2 : Value) (pre : List JnE) (V : World) : Prop where
  j : J (pre.filterMap changeJ) V
  y : Blk V gy 61 #[.func (.yield l) #[] #[]]
  b1 : Blk V b1 95 #[v1]
  b2 : Blk V b2 95 #[v2]
  b3 : Blk V b3 87 #[ordFSN]
  r1 : RowIn V 101 v1
  r2 : RowIn V 101 v2
theorem RowIn.ownF {W W' : World} {row : Option Nat} {te : TypeId} {v : Value} (h : RowIn W te v) (hg : W.grownBy W' row) (hr : ∀ r, row = some r → ∃ o : Obj, W.heap[r]? = some o ∧ o.isCells = false) : RowIn W' te v := fun g hv => by
  obtain ⟨cs, hc⟩ := h g hv
  exact ⟨cs, blk_ownF hc hg hr⟩
theorem DeI.own {J : List ChE → World → Prop} {B B' gy l b1 b2 b3 : Nat} {v1 v2 : Value} (hJ : AbN (fun _ => False) B J) (hB : B ≤ B') : OwnM (fun _ => False) B' (DeI J gy l b1 b2 b3 v1 v2) := fun s A C row h hg hr => by
  have hr' : ∀ r, row = some r → ∃ o : Obj, A.heap[r]? = some o ∧ o.isCells = false := fun r e => ((hr r e).resolve_left id).2
  exact ⟨hJ _ _ _ row h.j hg (fun r e => .inr ⟨Nat.le_trans hB ((hr r e).resolve_left id).1, ((hr r e).resolve_left id).2⟩), blk_ownF h.y hg hr', blk_ownF h.b1 hg hr', blk_ownF h.b2 hg hr', blk_ownF h.b3 hg hr', h.r1.ownF hg hr', h.r2.ownF hg hr'⟩
theorem DeI.below {J : List ChE → World → Prop} {B gy l b1 b2 b3 : Nat} {v1 v2 : Value} {pre : List JnE} {V V' : World} (hJ : AbN (fun _ => False) B J) (h : DeI J gy l b1 b2 b3 v1 v2 pre V) (hb : Below V.heap.size V V') : DeI J gy l b1 b2 b3 v1 v2 pre V' :=
  ⟨hJ _ _ _ none h.j (grown_below (row := none) hb) (fun r e => by cases e), h.y.below hb h.y.lt, h.b1.below hb h.b1.lt, h.b2.below hb h.b2.lt, h.b3.below hb h.b3.lt, h.r1.below hb, h.r2.below hb⟩
theorem getN_size {xs : List NE} (hu : Up ordS xs) {m : Nat} (h : ∀ e ∈ xs, e.2.data.size ≤ m) {p : ByteArray} {a : Nd} (hg : getN ordS p xs = some a) : a.data.size ≤ m := by
  rcases Classical.em (∃ e ∈ xs, e.1 = p) with ⟨⟨q, v⟩, he, rfl⟩ | hn
  · rw [(get_of_mem ordS_ord hu he).1] at hg
    cases hg
    exact h _ he
  · rw [(get_of_not ordS_ord (fun e he h => hn ⟨e, he, h⟩)).1] at hg
    cases hg
theorem fm_one (pre : List JnE) (x : JnE) : (pre ++ [x]).filterMap changeJ = pre.filterMap changeJ ++ (changeJ x).toList := by
  rw [List.filterMap_append]
  cases h : changeJ x with
  | none => simp [h]
  | some c => simp [h]
/-- in the wide fence the depth is free -/
theorem round_wideN {n m l l2 : Nat} {P : Program} {f : FuncId} {tmps : Array Value} {assign body : Code} {w : World} {R : Ending → World → Prop} (h : RoundIn Fence.wide n P l f tmps assign body w R) : RoundIn (Fence.wide.inRound l2) m P l f tmps assign body w R :=
  ⟨trivial, fun c cs _ => h.2 c cs (room_wide _)⟩
set_option maxRecDepth 100000 in
set_option maxHeartbeats 8000000 in
theorem diffEach_tells (n : Nat) (hn : 6 ≤ n) (ts : List TypeId) (hts : KeepOkD ts) (B0 : Nat) (w : World) (hB0 : B0 ≤ w.heap.size) (gl gr bt bm bt2 bm2 : Nat) (xs ys : List NE) (h1 : Blk w gl 26 #[.pointer (some ⟨bt, 0, none⟩)]) (h2 : Blk w gr 26 #[.pointer (some ⟨bt2, 0, none⟩)])
    (hT : TreeAt w bt bm xs) (hT2 : TreeAt w bt2 bm2 ys) (hxi : TI xs) (hyi : TI ys) (hxl : xs.length ≤ 1000) (hyl : ys.length ≤ 1000) (hxd : ∀ e ∈ xs, e.2.data.size ≤ maxLen) (hyd : ∀ e ∈ ys, e.2.data.size ≤ maxLen) :
    SeqIn (fun _ => False) Fence.wide n Tryz.prog 30 #[.pointer (some ⟨gl, 0, none⟩), .pointer (some ⟨gr, 0, none⟩)] (fun c : ChE => #[.agg #[.int .i64 c.1, .string c.2, .string ⟨#[]⟩]]) (KeepR B0 ts) (fun zs => zs = eachP xs ys) (fun pre => pre <+: eachP xs ys) (fun pre => pre <+: eachP xs ys) w := fun l J Jx W hW hlW hJ hJx hY hJ0 => by
  have hej := each_join hxi hyi
  have hba : Below W.heap.size W (W.alloc (.cells #[.func (.yield l) #[] #[]] 61)) := (Below.refl _ W).alloc (Nat.le_refl _) _
  have hY0 := Blk.new W 61 #[.func (.yield l) #[] #[]]
  obtain ⟨W0, hW0⟩ : ∃ W0, W.alloc (.cells #[.func (.yield l) #[] #[]] 61) = W0 := ⟨_, rfl⟩
  rw [hW0] at hba hY0
  have hw0 := hW.trans (hba.mono hW.size)
  have p1 := h1.below hw0 h1.lt
  have p2 := h2.below hw0 h2.lt
  have H0 := Lib.hid (And.intro hba (And.intro hY0 (And.intro (hT.below hw0) (hT2.below hw0))))
  have hxp : ∀ e ∈ xs, e.1.size ≤ 90000 := fun e he => hT.ok (n := e.2) he
  have hyp : ∀ e ∈ ys, e.1.size ≤ 90000 := fun e he => hT2.ok (n := e.2) he
  have HN1 := Lib.hid (fun V (h : TreeAt V bt bm xs) => nodes_any V bt bm xs h hxl hxp hxd)
  have HN2 := Lib.hid (fun V (h : TreeAt V bt2 bm2 ys) => nodes_any V bt2 bm2 ys h hyl hyp hyd)
  have HJ := Lib.hid (And.intro hJ (And.intro hJx (And.intro hY hJ0)))
  have HX := Lib.hid (And.intro hej (And.intro hxd (And.intro hyd (And.intro hxp hyp))))
  have hsz : B0 ≤ W.heap.size := Nat.le_trans hB0 hW.size
  have k0 : ∀ m : Held (Aft W0), (HeldW m).cell? ⟨gl, 0, none⟩ = some (.pointer (some ⟨bt, 0, none⟩)) := fun m => (Aft.cell m p1.lt).trans (p1.cell 0)
  have k1 : ∀ m : Held (Aft W0), (HeldW m).cell? ⟨gr, 0, none⟩ = some (.pointer (some ⟨bt2, 0, none⟩)) := fun m => (Aft.cell m p2.lt).trans (p2.cell 0)
  have HC0 := Lib.hid (Aft.start W0)
  have HW0 := Lib.hid hW0
  clear hJ hJx hY hJ0 hej hba hY0 hw0 hT hT2 h1 h2 p1 p2 hxp hyp hxd hyd hW hW0
  refine callsIn_of_wp_marks Tryz.func30 rfl trivial ?_ rfl
  simp only [Tryz.ntmps30, List.size_toArray, List.length_cons, List.length_nil, Nat.reduceAdd, Nat.reduceSub, Array.replicate_succ, Array.replicate_zero, List.push_toArray, List.append_toArray, List.nil_append, List.cons_append]
  refine wpIn_wide.2 ?_
  go_upto_region 1 with fail
  rw [HW0.out]
  refine wp_region_mix (Aft W0) [(0, true), (2, true), (1, false), (3, false), (4, false)] (by kernel_rfl) (by kernel_rfl) ?_
  simp only [pickP, List.filterMap_cons, List.filterMap_nil, List.getElem?_toArray, List.getElem?_cons_succ, List.getElem?_cons_zero, Option.map_some]
  repeat (apply mix_first; apply Exists.intro; refine ⟨fun m => ?_, HC0.out, ?_⟩; · (go_big_quiet_step (fail); exact wpQuiet_nil rfl))
  clear k0 k1
  refine mix_forced HC0.out ?_
  go_wp2_with fail
  refine (HN1.out W0.drew (H0.out.2.2.1.below HC0.out)).mono ?_
  rintro e w1 ⟨m1, rfl, hm1, _, hb1⟩
  have H1 := Lib.hid (And.intro (show Aft W0 w1 from Aft.keep _ _ HC0.out hb1) hm1)
  clear hb1 hm1 HC0
  go_wp2_with fail
  show mixC _ _ _ _ _ _ _
  refine mix_forced H1.out.1 ?_
  go_wp2_with fail
  refine (HN2.out w1 (H0.out.2.2.2.below H1.out.1)).mono ?_
  rintro e w2 ⟨m2, rfl, hm2, _, hb2⟩
  have H2 := Lib.hid (And.intro (show Aft W0 w2 from Aft.keep _ _ H1.out.1 hb2) (And.intro (H1.out.2.below hb2) hm2))
  clear hb2 hm2 H1
  go_wp2_with fail
  show mixC _ _ _ _ _ _ _
  refine mix_forced H2.out.1 ?_
  go_wp2_with fail
  refine (joinOwnSN_any w2 m1 m2 xs ys H2.out.2.1 H2.out.2.2).mono ?_
  rintro e w3 ⟨b1, b2, b3, v1, v2, rfl, B1, B2, B3, L1, L2, R1, R2, hb3⟩
  have hA3 : Aft W0 w3 := Aft.keep _ _ H2.out.1 hb3
  have hbW3 : Below W.heap.size W w3 := H0.out.1.trans (hA3.mono H0.out.1.size)
  have hDe : DeI J W.heap.size l b1 b2 b3 v1 v2 [] w3 := ⟨HJ.out.1 _ W w3 none HJ.out.2.2.2 (grown_below (row := none) hbW3) (fun r h => by cases h), H0.out.2.1.below hA3 H0.out.2.1.lt, B1, B2, B3, R1, R2⟩
  have H3 := Lib.hid (And.intro hA3 (And.intro hbW3 hDe))
  have HT := Lib.hid (SeqTells.into (joinSN_tells (n - 1) (by omega) b1 b2 b3 v1 v2 xs ys w3 B1 B2 B3 L1 L2 R1.lt R2.lt (by omega) (by omega) HX.out.2.2.2.1 HX.out.2.2.2.2))
  have hKK : ∀ g, JoinK b1 b2 b3 v1 v2 g → g < w3.heap.size := fun g hg => by
    rcases hg with rfl | rfl | rfl | h | h
    · exact B1.lt
    · exact B2.lt
    · exact B3.lt
    · exact R1.lt g h
    · exact R2.lt g h
  have hWs : W.heap.size ≤ w3.heap.size := hbW3.size
  clear hb3 hA3 hbW3 hDe B1 B2 B3 L1 L2 R1 R2 H2
  go_wp2_with fail
  show mixC _ _ _ _ _ _ _
  refine mix_nil H3.out.1 ?_
  go_wp2_with fail
  refine (wpIn_wide (n := n)).1 ?_
  refine wpIn_rangeFunc_in (Mine := fun _ => False) (fun _ h => h.elim) rfl (by omega) (gf := 52) (lb := #[.pointer (some ⟨b1, 0, none⟩), .pointer (some ⟨b2, 0, none⟩), .pointer (some ⟨b3, 0, none⟩)]) rfl trivial (enters_of Tryz.func52 (by kernel_rfl) rfl)
    HT.out KeepP.trans (fun W l o o' hl h => keepP_b hKK W l _ _ hl h rfl rfl) (Below.refl _ _) (fun _ => rfl)
    (DeI J W.heap.size l b1 b2 b3 v1 v2)
    (fun c pre V => c = .ret ∧ Jx (pre.filterMap changeJ) V)
    (DeI.own HJ.out.1 hWs)
    (fun c s A C row h hg hr => ⟨h.1, HJ.out.2.1 _ _ _ row h.2 hg (fun r e => .inr ⟨Nat.le_trans hWs ((hr r e).resolve_left id).1, ((hr r e).resolve_left id).2⟩)⟩)
    H3.out.2.2
    ?a1 (fun x V => V.alloc (.cells (pCSN x.2) 69))
    (fun x n0 pre V => DeI J W.heap.size l b1 b2 b3 v1 v2 pre V ∧ Blk V n0 69 (pCSN x.2))
    (fun x n0 s A C row h hg hr => ⟨DeI.own HJ.out.1 hWs s A C row h.1 hg hr, blk_ownF h.2 hg (fun r e => ((hr r e).resolve_left id).2)⟩)
    ?made ?assign ?body ?done ?stop
  case assign =>
    intro l2 x n0 V hn0 K hK
    simp only [pCSN]
    gi_wp2
    exact hK
  case made =>
    intro pre x V hI hTl
    have hba := (Below.refl V.heap.size V).alloc (Nat.le_refl _) (.cells (pCSN x.2) 69)
    exact ⟨⟨hI.below HJ.out.1 hba, Blk.new _ _ _⟩, keeps_belowF hba, ⟨hba.size, fun g hg => hba.block g (by
      rcases hg with rfl | rfl | rfl | h | h
      · exact hI.b1.lt
      · exact hI.b2.lt
      · exact hI.b3.lt
      · exact hI.r1.lt g h
      · exact hI.r2.lt g h)⟩⟩
  case body =>
    rintro l2 pre ⟨p, x, y⟩ n0 V ⟨hI, hX⟩ hTl hsV
    have hpre : pre.filterMap changeJ ++ (changeJ (p, x, y)).toList <+: eachP xs ys := by
      obtain ⟨r, hr⟩ := hTl
      rw [← HX.out.1, ← hr, List.filterMap_append, fm_one]
      exact List.prefix_append _ _
    have hmem : (p, x, y) ∈ joinL ordS xs ys := by obtain ⟨r, hr⟩ := hTl; rw [← hr]; simp
    have hjk := (join_ok _ xs ys (Nat.le_refl _) hxi.up hyi.up).1 _ hmem
    have hk := fun V' => diffKind_any V' p x y (fun a ha => getN_size hxi.up HX.out.2.1 (hjk.1.symm.trans ha)) (fun a ha => getN_size hyi.up HX.out.2.2.1 (hjk.2.symm.trans ha))
    have hfo := fm_one pre (p, x, y)
    obtain ⟨kk, hkk⟩ : ∃ k, kindJ (p, x, y) = k := ⟨_, rfl⟩
    have hch : changeJ (p, x, y) = if kk = 0 then none else some (kk, p) := by unfold changeJ; rw [hkk]
    simp only [hkk] at hk
    rw [hch] at hfo hpre
    have HF := Lib.hid hfo
    have HP := Lib.hid hpre
    unfold pCSN at hk
    dsimp only [pCSN] at hX
    dsimp only at hk
    clear hTl hmem hjk hkk hch hfo hpre
    have HI := Lib.hid hI
    clear hI
    obtain ⟨a, ha⟩ : ∃ a, x.getD ⟨0, 0, 0, ⟨#[]⟩⟩ = a := ⟨_, rfl⟩
    obtain ⟨b, hb⟩ : ∃ b, y.getD ⟨0, 0, 0, ⟨#[]⟩⟩ = b := ⟨_, rfl⟩
    simp only [ha, hb] at hX hk
    generalize x.isSome = xi at *
    generalize y.isSome = yi at *
    obtain ⟨ak, am, at', ad⟩ := a
    obtain ⟨ck, cm, ct, cd⟩ := b
    simp only at hX hk
    have z0 := hX.cell 0
    have z1 := hX.cell 1
    have z2 := hX.cell 2
    have z3 := hX.cell 3
    have z4 := hX.cell 4
    have z5 := hX.cell 5
    have z6 := hX.cell 6
    have z7 := hX.cell 7
    have z8 := hX.cell 8
    have z9 := hX.cell 9
    simp only [List.getElem?_toArray, List.getElem?_cons_succ, List.getElem?_cons_zero] at z0 z1 z2 z3 z4 z5 z6 z7 z8 z9
    have HK := Lib.hid hk
    clear hk hX ha hb
    gi_wp2
    refine ⟨trivial, fun _ => by omega, (callsIn_wide.2 (HK.out _)).mono ?_⟩
    rintro e V1 ⟨rfl, hb1⟩
    have hI1 := HI.out.below HJ.out.1 hb1
    have hKeep : KeepP (JoinK b1 b2 b3 v1 v2) V V1 := ⟨hb1.size, fun g hg => hb1.block g (by
      rcases hg with rfl | rfl | rfl | h | h
      · exact HI.out.b1.lt
      · exact HI.out.b2.lt
      · exact HI.out.b3.lt
      · exact HI.out.r1.lt g h
      · exact HI.out.r2.lt g h)⟩
    have HB := Lib.hid (And.intro hb1 hKeep)
    have HI1 := Lib.hid hI1
    have c0 := hI1.y.cell 0
    simp at c0
    clear hb1 hKeep hI1 z0 z1 z2 z3 z4 z5 z6 z7 z8 z9 HK
    by_cases h0 : kk = 0
    · subst h0
      rw [if_pos rfl] at HF
      gi_wp2
      refine ⟨fun _ _ => trivial, ?_⟩
      gi_wp2
      refine ⟨(keeps_belowF HB.out.1).from _, HB.out.2, ?_⟩
      have h2 := HI1.out
      refine ⟨?_, h2.y, h2.b1, h2.b2, h2.b3, h2.r1, h2.r2⟩
      rw [HF.out]
      simpa using h2.j
    · have t0 : (kk == 0) = false := by simpa using h0
      rw [if_neg h0] at HF HP
      have hy := HJ.out.2.2.1 (pre.filterMap changeJ) (kk, p) V1 HI1.out.j HP.out
      obtain ⟨fn, tmps, assign, body, hyy, hR⟩ := hy
      try dsimp only at hyy
      have H00 := Lib.hid h0
      clear h0
      gi_wp2
      refine ⟨fun _ => by omega, (round_wideN hR).mono ?_⟩
      rintro e V2 (⟨rfl, hJ2, hk2, hf2⟩ | ⟨rfl, hJx2, hf2⟩)
      · have hkf : KeepsFrom w3.heap.size V V2 := ((keeps_belowF HB.out.1).from _).trans (hf2.far (by omega))
        have hkp := HB.out.2.trans (keep_join hts HI1.out.b1 HI1.out.b2 HI1.out.b3 HI1.out.r1 HI1.out.r2 hk2)
        have hD : DeI J W.heap.size l b1 b2 b3 v1 v2 (pre ++ [(p, x, y)]) V2 := by
          have h2 := HI1.out
          refine ⟨?_, hk2.row _ _ _ h2.y hts.2.2.2, hk2.row _ _ _ h2.b1 hts.1, hk2.row _ _ _ h2.b2 hts.1, hk2.row _ _ _ h2.b3 hts.2.1, fun g hg => ?_, fun g hg => ?_⟩
          · rw [HF.out]; exact hJ2
          · obtain ⟨cs, hc⟩ := h2.r1 g hg; exact ⟨cs, hk2.row _ _ _ hc hts.2.2.1⟩
          · obtain ⟨cs, hc⟩ := h2.r2 g hg; exact ⟨cs, hk2.row _ _ _ hc hts.2.2.1⟩
        have HZ := Lib.hid (And.intro hkf (And.intro hkp hD))
        clear hkf hkp hD hJ2 hk2 hf2
        gi_wp2
        exact ⟨HZ.out.1, HZ.out.2.1, HZ.out.2.2⟩
      · have hkf : KeepsFrom w3.heap.size V V2 := ((keeps_belowF HB.out.1).from _).trans (hf2.far (by omega))
        have hjx : Jx ((pre ++ [(p, x, y)]).filterMap changeJ) V2 := by rw [HF.out]; exact hJx2
        have HZ := Lib.hid (And.intro hkf hjx)
        clear hkf hjx hJx2 hf2
        gi_wp2
        exact ⟨HZ.out.1, rfl, HZ.out.2⟩
  case done =>
    rintro D zs V rfl hzs hI hK
    have hz : zs = joinL ordS xs ys := hzs
    subst hz
    have hj := hI.j
    rw [HX.out.1] at hj
    have HZ := Lib.hid (HJ.out.1 _ V _ (some w3.heap.size) hj (grownBy_putObj' _ w3.heap.size (.deferred none)) (fun r e => by cases e; exact .inr ⟨hWs, _, hK, rfl⟩))
    clear hj hI hzs
    gi_wp2
    refine ⟨by simp, .inl ⟨_, _, rfl, run_takeDeferred hK, ?_⟩⟩
    exact ⟨_, results_none rfl _ _ _, ⟨_, rfl⟩, .inl ⟨_, rfl, HZ.out⟩⟩
  case stop =>
    rintro D c pre V rfl hSp ⟨hc, hjx⟩ hK
    subst hc
    have hpre : pre.filterMap changeJ <+: eachP xs ys := by
      obtain ⟨r, hr⟩ := hSp
      rw [← HX.out.1, ← hr, List.filterMap_append]
      exact List.prefix_append _ _
    have HZ := Lib.hid (HJ.out.2.1 _ V _ (some w3.heap.size) hjx (grownBy_putObj' _ w3.heap.size (.deferred none)) (fun r e => by cases e; exact .inr ⟨hWs, _, hK, rfl⟩))
    have HP := Lib.hid hpre
    clear hjx hpre hSp
    gi_wp2
    refine ⟨by simp, .inl ⟨_, _, rfl, run_takeDeferred hK, ?_⟩⟩
    exact ⟨_, results_none rfl _ _ _, ⟨_, rfl⟩, .inr ⟨_, HP.out, HZ.out⟩⟩
end Go.Proofs.YtihiakkeloejlaaGreatDoor
/- A region that draws its order, walked along a tree of orders: as Chain's law, where two operations may be ready at once. Over any program. -/
set_option linter.unusedVariables false
set_option linter.unusedSimpArgs false
namespace Sw
open Go
/-- the orders: 'first': yields the same in the class; 'forced': the only one ready; 'two': one of two -/
inductive PermT where
  | nil : PermT
  | first : Nat → PermT → PermT
  | forced : Nat → PermT → PermT
  | two : Nat → PermT → Nat → PermT → PermT
inductive MixT where
  | nil : MixT
  | first : Oper → MixT → MixT
  | forced : Oper → MixT → MixT
  | two : Oper → MixT → Oper → MixT → MixT
def PermT.depth : PermT → Nat
  | .nil => 0
  | .first _ r => r.depth + 1
  | .forced _ r => r.depth + 1
  | .two _ r _ _ => r.depth + 1
def permBT (md : Region.Mode) (ops : Array Oper) : PermT → Array Bool → Bool
  | .nil, listed => (Region.ready md ops listed).isEmpty
  | .first i r, listed => (Region.ready md ops listed).contains i && Region.free md ops listed i && permBT md ops r (listed.setIfInBounds i true)
  | .forced i r, listed => decide (Region.ready md ops listed = [i]) && permBT md ops r (listed.setIfInBounds i true)
  | .two i r j s, listed => decide (Region.ready md ops listed = [i, j]) && decide (s.depth = r.depth) && permBT md ops r (listed.setIfInBounds i true) && permBT md ops s (listed.setIfInBounds j true)
def pickT (ops : Array Oper) : PermT → MixT
  | .nil => .nil
  | .first i r => match ops[i]? with
    | some o => .first o (pickT ops r)
    | none => .nil
  | .forced i r => match ops[i]? with
    | some o => .forced o (pickT ops r)
    | none => .nil
  | .two i r j s => match ops[i]?, ops[j]? with
    | some o, some p => .two o (pickT ops r) p (pickT ops s)
    | _, _ => .nil
def mixT (P : Program) (ops : Array Oper) (C : World → Prop) (Q : Exit → Act → World → Prop) : MixT → Act → World → Prop
  | .nil, a, w => C w ∧ Q .normal a w
  | .first o r, a, w => ∃ A1, (∀ m : Held C, wpStill P ops (HeldW m) (fun a' => a' = A1) [o] a) ∧ C w ∧ mixT P ops C Q r A1 w
  | .forced o r, a, w => C w ∧ wpList P ops (OnlyN fun _ a' w' => mixT P ops C Q r a' w') [o] a w
  | .two o r p s, a, w => C w ∧ wpList P ops (OnlyN fun _ a' w' => mixT P ops C Q r a' w') [o] a w ∧ wpList P ops (OnlyN fun _ a' w' => mixT P ops C Q s a' w') [p] a w
section
variable {P : Program} {ops : Array Oper} {md : Region.Mode} {Q : Exit → Act → World → Prop} {C : World → Prop}
theorem wpOp_of_list {j : Nat} {o : Oper} (ho : ops[j]? = some o) {K K' : Act → World → Prop} {a : Act} {w : World} (hgo : ∀ a' w', K a' w' → K' a' w') (hw : wpList P ops (OnlyN fun _ a' w' => K a' w') [o] a w) : wpOp P ops (OnlyN Q) j K' a w := by
  unfold wpOp
  simp only [ho]
  simp only [wpList] at hw
  split
  · rename_i hwt
    rw [if_pos hwt] at hw
    rcases hw with hw | hw
    · left
      unfold Oper.wp at *
      generalize (execOp a.eval o).run P w = res at *
      cases res with
      | ok n w' =>
        cases n <;> simp only [Oper.upon] at hw ⊢
        case value u => exact hgo _ _ hw
        case skip => exact hgo _ _ hw
        case defer d => exact hgo _ _ hw
        case enter f args => exact Calls.mono hw (fun e w'' he => by
          cases e
          · exact hgo _ _ he
          · exact he
          · exact absurd he OnlyN.out)
        case row row args => exact Rows.mono hw (fun v w'' he => hgo _ _ he)
      | halt x w' => cases x <;> simp only [Oper.upon] at hw ⊢ <;> exact hw
    · exact absurd hw.2 OnlyN.out
  · rename_i hwt
    rw [if_neg hwt] at hw
    exact hgo _ _ hw
theorem anyC_of_mixT (hs : Region.noSelect ops = true) : ∀ (perm : PermT) (listed : Array Bool) (a : Act) (w : World), permBT md ops perm listed = true → mixT P ops C Q (pickT ops perm) a w → anyC P md ops C Q perm.depth listed a w
  | .nil, listed, a, w, hB, h => ⟨h.1, by simpa [permBT] using hB, h.2⟩
  | .first i r, listed, a, w, hB, h => by
    simp only [permBT, Bool.and_eq_true] at hB
    obtain ⟨⟨hr, hf⟩, hB'⟩ := hB
    have hr' : i ∈ Region.ready md ops listed := by simpa using hr
    obtain ⟨_, o, ho, _⟩ := mem_ready.1 hr'
    simp only [pickT, ho] at h
    obtain ⟨A1, hv, hC, hm⟩ := h
    have hst : ∀ W, C W → ∃ v', YieldsAt P ops W o v' a ∧ a.put o.dst v' = A1 := fun W hW => by
      have h1 : stOp P ops W i (fun a' => a' = A1) a := by unfold stOp; simp only [ho]; exact hv ⟨W, hW⟩
      exact yieldsAt_of_stOp ho h1
    obtain ⟨v, _, rfl⟩ := hst w hC
    exact anyC_first ho (Region.noSelect_spec hs) r.depth listed a w (Region.free_spec ho hf) hr' hC hst (anyC_of_mixT hs r _ _ w hB' hm)
  | .forced i r, listed, a, w, hB, h => by
    simp only [permBT, Bool.and_eq_true, decide_eq_true_eq] at hB
    obtain ⟨hr, hB'⟩ := hB
    have hr' : i ∈ Region.ready md ops listed := by rw [hr]; simp
    obtain ⟨_, o, ho, _⟩ := mem_ready.1 hr'
    simp only [pickT, ho] at h
    obtain ⟨hC, hw⟩ := h
    refine ⟨hC, by rw [hr]; simp, fun j hj => ?_⟩
    rw [hr] at hj
    obtain rfl : j = i := by simpa using hj
    exact wpOp_of_list ho (fun a' w' hm => anyC_of_mixT hs r _ a' w' hB' hm) hw
  | .two i r j s, listed, a, w, hB, h => by
    simp only [permBT, Bool.and_eq_true, decide_eq_true_eq] at hB
    obtain ⟨⟨⟨hr, hd⟩, hB1⟩, hB2⟩ := hB
    have hri : i ∈ Region.ready md ops listed := by rw [hr]; simp
    have hrj : j ∈ Region.ready md ops listed := by rw [hr]; simp
    obtain ⟨_, o, ho, _⟩ := mem_ready.1 hri
    obtain ⟨_, p, hp, _⟩ := mem_ready.1 hrj
    simp only [pickT, ho, hp] at h
    obtain ⟨hC, hw1, hw2⟩ := h
    refine ⟨hC, by rw [hr]; simp, fun k hk => ?_⟩
    rw [hr] at hk
    rcases List.mem_cons.1 hk with rfl | hk
    · exact wpOp_of_list ho (fun a' w' hm => anyC_of_mixT hs r _ a' w' hB1 hm) hw1
    · obtain rfl : k = j := by simpa using hk
      exact wpOp_of_list hp (fun a' w' hm => by
        have := anyC_of_mixT hs s (listed.setIfInBounds k true) a' w' hB2 hm
        rw [hd] at this
        exact this) hw2
end
theorem wp_region_mixT {P : Program} (C : World → Prop) (perm : PermT) {id : Nat} {Q : Exit → Act → World → Prop} {a : Act} {w : World} {l : List Oper} (hm : P.follows .mixedOrders = true)
    (hB : (Region.noSelect l.toArray && decide (perm.depth = l.length) && permBT .any l.toArray perm (Array.replicate l.length false)) = true)
    (h : mixT P l.toArray C Q (pickT l.toArray perm) a w.drew) : (Code.region id l.toArray true).wp P Q a w := by
  simp only [Bool.and_eq_true, decide_eq_true_eq] at hB
  obtain ⟨⟨hs, hl⟩, hp⟩ := hB
  refine Code.wp_mono OnlyN.imp (wp_region_any hm (wpAny_of_anyC (C := C) _ _ _ _ ?_))
  have := anyC_of_mixT (C := C) (Q := Q) hs perm (Array.replicate l.length false) a w.drew hp h
  rw [hl] at this
  simpa using this
section
variable {P : Program} {ops : Array Oper} {C : World → Prop} {Q : Exit → Act → World → Prop} {o p : Oper} {r s : MixT} {a : Act} {w : World}
theorem mixT_nil (hC : C w) (h : Q .normal a w) : mixT P ops C Q .nil a w := ⟨hC, h⟩
theorem mixT_first (h : ∃ A1, (∀ m : Held C, wpQuiet P ops (fun w' => ∃ _ : Unit, w' = HeldW m) (fun a' => a' = A1) [o] a) ∧ C w ∧ mixT P ops C Q r A1 w) : mixT P ops C Q (.first o r) a w := by
  obtain ⟨A1, h1, h2, h3⟩ := h
  exact ⟨A1, fun m => still_of_quiet (h1 m), h2, h3⟩
theorem mixT_forced (hC : C w) (h : wpList P ops (OnlyN fun _ a' w' => mixT P ops C Q r a' w') [o] a w) : mixT P ops C Q (.forced o r) a w := ⟨hC, h⟩
theorem mixT_two (hC : C w) (h1 : wpList P ops (OnlyN fun _ a' w' => mixT P ops C Q r a' w') [o] a w) (h2 : wpList P ops (OnlyN fun _ a' w' => mixT P ops C Q s a' w') [p] a w) : mixT P ops C Q (.two o r p s) a w := ⟨hC, h1, h2⟩
end
end Sw
/- As XChain, but the class of worlds need not hold behind the last operation (a store that ends what the class says). Over any program. -/
set_option linter.unusedVariables false
set_option linter.unusedSimpArgs false
namespace Sw
open Go
section
variable {P : Program} {ops : Array Oper} {md : Region.Mode} {Q : Exit → Act → World → Prop} {C : World → Prop}
/-- whatever is listed, all that it waits for is listed -/
def DownB (md : Region.Mode) (ops : Array Oper) (listed : Array Bool) : Prop := ∀ (k : Nat) (ok : Oper), ops[k]? = some ok → listed.getD k false = true → ∀ e ∈ ok.after, Region.binds md e = true → listed.getD e.on false = true
theorem DownB.add {listed : Array Bool} (h : DownB md ops listed) {i : Nat} (hi : i ∈ Region.ready md ops listed) : DownB md ops (listed.setIfInBounds i true) := by
  intro k ok hk hl e he hb
  by_cases hki : i = k
  · subst hki
    obtain ⟨_, o, ho, hall⟩ := mem_ready.1 hi
    rw [hk] at ho
    cases ho
    exact getD_set_true (hall e he hb)
  · rw [getD_set_ne false hki] at hl
    exact getD_set_true (h k ok hk hl e he hb)
def anyD (P : Program) (md : Region.Mode) (ops : Array Oper) (C : World → Prop) (Q : Exit → Act → World → Prop) : Nat → Array Bool → Act → World → Prop
  | 0, listed, a, w => (∀ j, listed.getD j true = true) ∧ Q .normal a w
  | f + 1, listed, a, w => C w ∧ Region.ready md ops listed ≠ [] ∧ ∀ i ∈ Region.ready md ops listed, wpOp P ops (OnlyN Q) i (anyD P md ops C Q f (listed.setIfInBounds i true)) a w
theorem wpAny_of_anyD : ∀ (f : Nat) (listed : Array Bool) (a : Act) (w : World), anyD P md ops C Q f listed a w → wpAny P md ops (OnlyN Q) f listed a w
  | 0, listed, a, w, h => ⟨by
      rw [List.eq_nil_iff_forall_not_mem]
      intro j hj
      have := (mem_ready.1 hj).1
      rw [h.1 j] at this
      exact absurd this (by decide), h.2⟩
  | f + 1, listed, a, w, h => ⟨fun h0 => absurd h0 h.2.1, fun i hi => wpOp_mono (fun a w => wpAny_of_anyD f _ a w) (h.2.2 i hi)⟩
theorem anyD_first {i : Nat} {oi : Oper} {v : Value} (hi : ops[i]? = some oi) (hsel : ∀ (j : Nat) (o : Oper) cs b, ops[j]? = some o → o.op ≠ .select cs b)
    (hdep : ∃ (k : Nat) (ok : Oper), ops[k]? = some ok ∧ k ≠ i ∧ ∃ e ∈ ok.after, Region.binds md e = true ∧ e.on = i) :
    ∀ (f : Nat) (listed : Array Bool) (a : Act) (w : World),
      (∀ j oj, ops[j]? = some oj → j ≠ i → listed.getD j true = false → (∀ e ∈ oj.after, Region.binds md e = true → e.on ≠ i) → oi.apart ops oj = true) →
      DownB md ops listed → ops.size ≤ listed.size → i ∈ Region.ready md ops listed → C w → (∀ W, C W → ∃ v', YieldsAt P ops W oi v' a ∧ a.put oi.dst v' = a.put oi.dst v) →
      anyD P md ops C Q f (listed.setIfInBounds i true) (a.put oi.dst v) w → anyD P md ops C Q (f + 1) listed a w := by
  intro f
  induction f with
  | zero =>
    intro listed a w _ hdn hsz hr hC hy H
    refine ⟨hC, fun h => (by rw [h] at hr; cases hr), fun j hj => ?_⟩
    by_cases hji : j = i
    · subst hji
      obtain ⟨v', hy1, hy2⟩ := hy w hC
      exact wpOp_of_stOp (fun a' h' => h') (hy1.stOp (K := fun a' => anyD P md ops C Q 0 (listed.setIfInBounds j true) a' w) hi (by rw [hy2]; exact H))
    · have h1 := (mem_ready.1 hj).1
      have h2 := H.1 j
      rw [getD_set_ne true (Ne.symm hji)] at h2
      rw [h1] at h2
      cases h2
  | succ f ih =>
    intro listed a w hfree hdn hsz hr hC hy H
    have hun := (mem_ready.1 hr).1
    refine ⟨hC, fun h => (by rw [h] at hr; cases hr), fun j hj => ?_⟩
    by_cases hji : j = i
    · subst hji
      obtain ⟨v', hy1, hy2⟩ := hy w hC
      exact wpOp_of_stOp (fun a' h' => h') (hy1.stOp (K := fun a' => anyD P md ops C Q (f + 1) (listed.setIfInBounds j true) a' w) hi (by rw [hy2]; exact H))
    · have h1 := H.2.2 j (ready_mono hj hji)
      obtain ⟨hjun, oj, hoj, hall⟩ := mem_ready.1 hj
      have hnot : ∀ e ∈ oj.after, Region.binds md e = true → e.on ≠ i := fun e he hb heq => by
        have h1 := hall e he hb
        rw [heq, getD_both hun] at h1
        cases h1
      have hap := hfree j oj hoj hji hjun hnot
      have hap3 := (Oper.apart_spec hap)
      refine wpOp_put hoj hap (fun cs b => hsel j oj cs b hoj) (fun ds u w' hk => ?_) h1
      have hCw : C w' := by
        cases f with
        | succ f => exact hk.1
        | zero =>
          exfalso
          obtain ⟨k, ok, hok, hki, e, he, hb, heo⟩ := hdep
          by_cases hkj : k = j
          · subst hkj
            rw [hoj] at hok
            cases hok
            exact hnot e he hb heo
          · have h2 := hk.1 k
            rw [getD_set_ne true (Ne.symm hkj), getD_set_ne true (Ne.symm hki)] at h2
            rcases Nat.lt_or_ge k listed.size with hks | hks
            · have h3 : listed.getD k false = true := by
                rw [Array.getD_eq_getD_getElem?, Array.getElem?_eq_getElem hks] at h2 ⊢
                simpa using h2
              have h4 := hdn k ok hok h3 e he hb
              rw [heo, getD_both hun] at h4
              cases h4
            · -- an operation that is not counted
              have h5 : k < ops.size := (Array.getElem?_eq_some_iff.1 hok).1
              omega
      refine ih (listed.setIfInBounds j true) _ w' (fun k ok hk' hki hunk hno => hfree k ok hk' hki (by
        by_cases hjk : j = k
        · subst hjk; exact hjun
        · rw [getD_set_ne true hjk] at hunk; exact hunk) hno) (hdn.add hj) (by rw [Array.size_setIfInBounds]; exact hsz) (ready_mono hr (Ne.symm hji)) hCw (fun W hW => ?_) (by rw [Array.setIfInBounds_comm _ _ hji]; exact hk)
      obtain ⟨v', hy1, hy2⟩ := hy W hW
      refine ⟨v', hy1.of_same ?_ ?_, ?_⟩
      · exact execOp_put oi (fun cs b => hsel i oi cs b hi) ({ a with defers := ds ++ a.defers } : Act) oj.dst u hap3.2.2
      · exact wanted_put oi ({ a with defers := ds ++ a.defers } : Act) oj.dst u hap3.2.2
      · have hb : ∀ x, ({ a with defers := ds ++ a.defers } : Act).put oi.dst x = { a.put oi.dst x with defers := ds ++ a.defers } := fun x => by cases oi.dst <;> rfl
        rw [← Act.put_comm _ v' u hap3.2.1, ← Act.put_comm _ v u hap3.2.1, hb, hb, hy2]
/-- the walk in an order of one's own: 'true': yields the same in the class; 'false': forced -/
def mixD (P : Program) (ops : Array Oper) (C : World → Prop) (Q : Exit → Act → World → Prop) : List (Oper × Bool) → Act → World → Prop
  | [], a, w => Q .normal a w
  | (o, true) :: r, a, w => ∃ A1, (∀ m : Held C, wpStill P ops (HeldW m) (fun a' => a' = A1) [o] a) ∧ C w ∧ mixD P ops C Q r A1 w
  | (o, false) :: r, a, w => C w ∧ wpList P ops (OnlyN fun _ a' w' => mixD P ops C Q r a' w') [o] a w
/-- something waits for operation i -/
def awaited (md : Region.Mode) (ops : Array Oper) (i : Nat) : Bool := (List.range ops.size).any fun k => decide (k ≠ i) && (match ops[k]? with | some ok => ok.after.any fun e => Region.binds md e && decide (e.on = i) | none => false)
theorem awaited_spec {i : Nat} (h : awaited md ops i = true) : ∃ (k : Nat) (ok : Oper), ops[k]? = some ok ∧ k ≠ i ∧ ∃ e ∈ ok.after, Region.binds md e = true ∧ e.on = i := by
  unfold awaited at h
  obtain ⟨k, _, hk⟩ := List.any_eq_true.1 h
  simp only [Bool.and_eq_true, decide_eq_true_eq] at hk
  obtain ⟨hne, hk⟩ := hk
  cases ho : ops[k]? with
  | none => rw [ho] at hk; cases hk
  | some ok =>
    rw [ho] at hk
    obtain ⟨e, he, hb⟩ := Array.any_eq_true'.1 hk
    simp only [Bool.and_eq_true, decide_eq_true_eq] at hb
    exact ⟨k, ok, ho, hne, e, he, hb.1, hb.2⟩
def permD (md : Region.Mode) (ops : Array Oper) : List (Nat × Bool) → Array Bool → Bool
  | [], listed => listed.all id
  | (i, true) :: r, listed => (Region.ready md ops listed).contains i && Region.free md ops listed i && awaited md ops i && permD md ops r (listed.setIfInBounds i true)
  | (i, false) :: r, listed => decide (Region.ready md ops listed = [i]) && permD md ops r (listed.setIfInBounds i true)
theorem anyD_of_mix (hs : Region.noSelect ops = true) : ∀ (perm : List (Nat × Bool)) (listed : Array Bool) (a : Act) (w : World), DownB md ops listed → ops.size ≤ listed.size → permD md ops perm listed = true → mixD P ops C Q (pickP ops perm) a w → anyD P md ops C Q perm.length listed a w
  | [], listed, a, w, _, _, hB, h => ⟨fun j => by
      simp only [permD] at hB
      rcases Nat.lt_or_ge j listed.size with hj | hj
      · rw [Array.getD_eq_getD_getElem?, Array.getElem?_eq_getElem hj]
        have := Array.all_eq_true.1 hB j hj
        simpa using this
      · rw [Array.getD_eq_getD_getElem?, Array.getElem?_eq_none hj]
        rfl, h⟩
  | (i, true) :: r, listed, a, w, hdn, hsz, hB, h => by
    simp only [permD, Bool.and_eq_true] at hB
    obtain ⟨⟨⟨hr, hf⟩, haw⟩, hB'⟩ := hB
    have hr' : i ∈ Region.ready md ops listed := by simpa using hr
    obtain ⟨_, o, ho, _⟩ := mem_ready.1 hr'
    have e : pickP ops ((i, true) :: r) = (o, true) :: pickP ops r := by unfold pickP; simp [ho]
    rw [e] at h
    obtain ⟨A1, hv, hC, hm⟩ := h
    have hst : ∀ W, C W → ∃ v', YieldsAt P ops W o v' a ∧ a.put o.dst v' = A1 := fun W hW => by
      have h1 : stOp P ops W i (fun a' => a' = A1) a := by unfold stOp; simp only [ho]; exact hv ⟨W, hW⟩
      exact yieldsAt_of_stOp ho h1
    obtain ⟨v, _, rfl⟩ := hst w hC
    exact anyD_first ho (Region.noSelect_spec hs) (awaited_spec haw) r.length listed a w (Region.free_spec ho hf) hdn hsz hr' hC hst (anyD_of_mix hs r _ _ w (hdn.add hr') (by rw [Array.size_setIfInBounds]; exact hsz) hB' hm)
  | (i, false) :: r, listed, a, w, hdn, hsz, hB, h => by
    simp only [permD, Bool.and_eq_true, decide_eq_true_eq] at hB
    obtain ⟨hr, hB'⟩ := hB
    have hr' : i ∈ Region.ready md ops listed := by rw [hr]; simp
    obtain ⟨_, o, ho, _⟩ := mem_ready.1 hr'
    have e : pickP ops ((i, false) :: r) = (o, false) :: pickP ops r := by unfold pickP; simp [ho]
    rw [e] at h
    obtain ⟨hC, hw⟩ := h
    refine ⟨hC, by rw [hr]; simp, fun j hj => ?_⟩
    rw [hr] at hj
    obtain rfl : j = i := by simpa using hj
    have hgo : ∀ (a' : Act) (w' : World), mixD P ops C Q (pickP ops r) a' w' → anyD P md ops C Q r.length (listed.setIfInBounds j true) a' w' := fun a' w' hm => anyD_of_mix hs r _ a' w' (hdn.add hr') (by rw [Array.size_setIfInBounds]; exact hsz) hB' hm
    unfold wpOp
    simp only [ho]
    simp only [wpList] at hw
    split
    · rename_i hwt
      rw [if_pos hwt] at hw
      rcases hw with hw | hw
      · left
        unfold Oper.wp at *
        generalize (execOp a.eval o).run P w = res at *
        cases res with
        | ok n w' =>
          cases n <;> simp only [Oper.upon] at hw ⊢
          case value u => exact hgo _ _ hw
          case skip => exact hgo _ _ hw
          case defer d => exact hgo _ _ hw
          case enter f args => exact Calls.mono hw (fun e w'' he => by
            cases e
            · exact hgo _ _ he
            · exact he
            · exact absurd he OnlyN.out)
          case row row args => exact Rows.mono hw (fun v w'' he => hgo _ _ he)
        | halt x w' => cases x <;> simp only [Oper.upon] at hw ⊢ <;> exact hw
      · exact absurd hw.2 OnlyN.out
    · rename_i hwt
      rw [if_neg hwt] at hw
      exact hgo _ _ hw
end
theorem wp_region_mixD {P : Program} (C : World → Prop) (perm : List (Nat × Bool)) {id : Nat} {Q : Exit → Act → World → Prop} {a : Act} {w : World} {l : List Oper} (hm : P.follows .mixedOrders = true)
    (hB : (Region.noSelect l.toArray && decide (perm.length = l.length) && permD .any l.toArray perm (Array.replicate l.length false)) = true)
    (h : mixD P l.toArray C Q (pickP l.toArray perm) a w.drew) : (Code.region id l.toArray true).wp P Q a w := by
  simp only [Bool.and_eq_true, decide_eq_true_eq] at hB
  obtain ⟨⟨hs, hl⟩, hp⟩ := hB
  refine Code.wp_mono OnlyN.imp (wp_region_any hm (wpAny_of_anyD (C := C) _ _ _ _ ?_))
  have := anyD_of_mix (C := C) (Q := Q) hs perm (Array.replicate l.length false) a w.drew (fun k ok _ hl => by
    rw [Array.getD_eq_getD_getElem?] at hl
    rcases Nat.lt_or_ge k l.length with hk | hk
    · simp [hk] at hl
    · rw [Array.getElem?_eq_none (by simpa using hk)] at hl
      cases hl) (by simp) hp h
  rw [hl] at this
  simpa using this
theorem mixD_nil {P : Program} {ops : Array Oper} {C : World → Prop} {Q : Exit → Act → World → Prop} {a : Act} {w : World} (h : Q .normal a w) : mixD P ops C Q [] a w := h
theorem mixD_first {P : Program} {ops : Array Oper} {C : World → Prop} {Q : Exit → Act → World → Prop} {o : Oper} {r : List (Oper × Bool)} {a : Act} {w : World}
    (h : ∃ A1, (∀ m : Held C, wpQuiet P ops (fun w' => ∃ _ : Unit, w' = HeldW m) (fun a' => a' = A1) [o] a) ∧ C w ∧ mixD P ops C Q r A1 w) : mixD P ops C Q ((o, true) :: r) a w := by
  obtain ⟨A1, h1, h2, h3⟩ := h
  exact ⟨A1, fun m => still_of_quiet (h1 m), h2, h3⟩
theorem mixD_forced {P : Program} {ops : Array Oper} {C : World → Prop} {Q : Exit → Act → World → Prop} {o : Oper} {r : List (Oper × Bool)} {a : Act} {w : World} (hC : C w)
    (h : wpList P ops (OnlyN fun _ a' w' => mixD P ops C Q r a' w') [o] a w) : mixD P ops C Q ((o, false) :: r) a w := ⟨hC, h⟩
end Sw
