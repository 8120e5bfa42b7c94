/- Several texts, joined for the limit of sixty files; each one opens with its own comment. -/
import Derived.Test.YtihiakkeloejlaaGreatDoorJoin29
/- diff.Moves: what moved. -/
set_option linter.unusedVariables false
set_option linter.unusedSimpArgs false
namespace Go.Proofs.YtihiakkeloejlaaGreatDoor
open Go Go.RowKit Go.Shelf
open Sw
attribute [local go_sem] Oper.semAt_some
theorem getT_szD {xs : List NE} {p : ByteArray} {n : Nat} (hu : Up ordS xs) (h : ∀ e ∈ xs, e.2.data.size ≤ n) : (getT xs p).data.size ≤ n := by
  rcases Classical.em (∃ e ∈ xs, e.1 = p) with ⟨e, he, rfl⟩ | hn
  · rw [getT_in hu he]; exact h e he
  · rw [getT_out hu (fun e he h => hn ⟨e, he, h⟩)]; exact Nat.zero_le _
theorem each_in {xs ys : List NE} {c : ChE} (h : c ∈ eachP xs ys) : c.2 ∈ xs.map Prod.fst ++ ys.map Prod.fst := by
  have := (each_sub xs ys (pathsS (xs.map Prod.fst ++ ys.map Prod.fst))).mem (List.mem_map_of_mem (f := Prod.snd) h)
  exact (pathsS_mem _ _).1 this
theorem each_len (xs ys : List NE) : (eachP xs ys).length ≤ xs.length + ys.length := by
  have h1 := (each_sub xs ys (pathsS (xs.map Prod.fst ++ ys.map Prod.fst))).length_le
  have h2 := pathsS_len (xs.map Prod.fst ++ ys.map Prod.fst)
  rw [List.length_map] at h1
  rw [List.length_append, List.length_map, List.length_map] at h2
  unfold eachP
  omega
theorem goneQ_len (xs : List NE) (E : List ChE) (k : Pr) : (goneQ xs E k).length ≤ E.length := by
  unfold goneQ
  refine Nat.le_trans (List.length_filter_le _ _) ?_
  rw [List.length_map]
  exact List.length_filter_le _ _
theorem infoStr : (Tryz.prog.info? 9).map (fun i => (i.zero, i.size, i.bytes)) = some (some (.string ⟨#[]⟩), 1, 16) := by kernel_rfl
theorem infoChg : (Tryz.prog.info? 40).map (fun i => (i.zero, i.size, i.bytes)) = some (some (.agg #[.int .i64 0, .string ⟨#[]⟩, .string ⟨#[]⟩]), 3, 40) := by kernel_rfl
theorem mfold_len (ys : List NE) : ∀ (l : List ChE) (st : (Pr → List ByteArray) × List (ByteArray × ByteArray)), (l.foldl (mStep ys) st).2.length ≤ st.2.length + l.length
  | [], st => by simp
  | c :: l, st => by
    rw [List.foldl_cons]
    have h1 := mfold_len ys l (mStep ys st c)
    have h2 : (mStep ys st c).2.length ≤ st.2.length + 1 := by
      unfold mStep
      split
      · unfold qStep
        split <;> simp
      · omega
    simp only [List.length_cons]
    omega
theorem _root_.Sw.AppBody.drewD {T g : Nat} {tS e : TypeId} {size n : Nat} {v' : Value} {xs : List Value} {W W' : World} (h : AppBody T g tS e size n v' xs W W') : AppBody T g tS e size n v' xs W W'.drew :=
  ⟨⟨h.keeps.size, h.keeps.same⟩, h.below.drew, h.box.drew, h.own.drew, fun g' t cs h1 h2 h3 => (h.far g' t cs h1 h2 h3).drew, h.typ⟩
def C13 (g2 kb n : Nat) (pa pb pc pd pe : Int) (f : Pr → Option Value) (W : World) : Prop :=
  Blk W (g2 + 1 + 1 + 1 + 1) 80 #[.map (some (g2 + 1 + 1 + 1))] ∧ Blk W kb 78 #[.int .i64 pa, .int .i64 pb, .int .u32 pc, .int .i64 pd, .int .u32 pe] ∧ MapV W Tryz.prog 78 litP okP (g2 + 1 + 1 + 1) n f
/-- a queue without its first -/
theorem tail_lies (w : World) (b off c : Nat) (r : ByteArray) (t : List ByteArray) (h : Lies w 9 1 (fun p => [Value.string p]) (.slice (some ⟨b, off, none⟩) (t.length + 1) c) (r :: t)) :
    ∃ T, (∀ W, (Instr.slice 71 (.slice (some ⟨b, off, none⟩) (t.length + 1) c) (some (.int .i64 1)) none none).run Tryz.prog W = .ok (.slice (some T) t.length (c - 1)) W) ∧ Lies w 9 1 (fun p => [Value.string p]) (.slice (some T) t.length (c - 1)) t ∧ T.block = b := by
  have h0 := h
  obtain ⟨A, c', hv, h1, h2, -⟩ := h
  obtain ⟨-, hc⟩ : some (⟨b, off, none⟩ : Addr) = A ∧ c = c' := by injection hv with e1 e2 e3; exact ⟨e1, e3⟩
  subst hc
  simp only [List.length_cons] at h1
  have hr := fun W => run_slice_l (P := Tryz.prog) (w := W) 71 (some ⟨b, off, none⟩) (t.length + 1) c (by kernel_rfl) .i64 1 (by omega) (by omega)
  refine ⟨if c = 1 then ⟨b, off, none⟩ else ⟨b, off + 1, none⟩, fun W => ?_, ?_, by split <;> rfl⟩
  · rw [hr]
    have hsz : (sizeOf (Tryz.prog.elem 71)).run Tryz.prog W = .ok 1 W := by
      simp only [sizeOf]
      kernel_rfl
    rw [hsz]
    simp only [Result.andThen, sliced]
    split <;> rename_i hc1
    · have : c = 1 := by omega
      rw [if_pos this]; simp
    · have : ¬ c = 1 := by omega
      rw [if_neg this]; rfl
  · have h' : Lies w 9 1 (fun p => [Value.string p]) (.slice (some ⟨b, off, none⟩) (r :: t).length c) (r :: t) := h0
    have h3 := Lies.drop h' (fun _ => rfl) 1 (by simp) (if c = 1 then ⟨b, off, none⟩ else ⟨b, off + 1, none⟩) (fun hc => by rw [if_neg (by omega)])
    simpa using h3
/-- what the region of the move reads -/
def C12 (g2 n0 kb gq n : Nat) (o : Value) (p : ByteArray) (pa pb pc pd pe : Int) (cur : Array Value) (f : Pr → Option Value) (W : World) : Prop :=
  Blk W (g2 + 1 + 1) 32 #[o] ∧ Blk W (g2 + 1 + 1 + 1 + 1) 80 #[.map (some (g2 + 1 + 1 + 1))] ∧ Blk W n0 40 #[.int .i64 1, .string p, .string ⟨#[]⟩] ∧
  Blk W kb 78 #[.int .i64 pa, .int .i64 pb, .int .u32 pc, .int .i64 pd, .int .u32 pe] ∧ Blk W gq 9 cur ∧ MapV W Tryz.prog 78 litP okP (g2 + 1 + 1 + 1) n f
theorem C12.below {g2 n0 kb gq n : Nat} {o : Value} {p : ByteArray} {pa pb pc pd pe : Int} {cur : Array Value} {f : Pr → Option Value} {W W' : World} (h : C12 g2 n0 kb gq n o p pa pb pc pd pe cur f W) (hb : Below W.heap.size W W') : C12 g2 n0 kb gq n o p pa pb pc pd pe cur f W' :=
  ⟨h.1.below hb h.1.lt, h.2.1.below hb h.2.1.lt, h.2.2.1.below hb h.2.2.1.lt, h.2.2.2.1.below hb h.2.2.2.1.lt, h.2.2.2.2.1.below hb h.2.2.2.2.1.lt, h.2.2.2.2.2.below hb h.2.2.2.2.2.lt⟩
theorem C12.app {g2 n0 kb gq n : Nat} {o : Value} {p : ByteArray} {pa pb pc pd pe : Int} {cur : Array Value} {f : Pr → Option Value} {W W' : World} {base m : Nat} {zs : List Value} (h : C12 g2 n0 kb gq n o p pa pb pc pd pe cur f W) (ho : W.ownsRow base 40 3 o m zs) (hne : o.ownBlock ≠ some n0) (hg : W.grownBy W' o.ownBlock) : C12 g2 n0 kb gq n o p pa pb pc pd pe cur f W' :=
  ⟨h.1.grown hg (fun e => own_ne_blk ho h.1 (by decide) e.symm), h.2.1.grown hg (fun e => own_ne_blk ho h.2.1 (by decide) e.symm), h.2.2.1.grown hg (fun e => hne e.symm), h.2.2.2.1.grown hg (fun e => own_ne_blk ho h.2.2.2.1 (by decide) e.symm),
    h.2.2.2.2.1.grown hg (fun e => own_ne_blk ho h.2.2.2.2.1 (by decide) e.symm), h.2.2.2.2.2.kept hg (fun e => h.2.2.2.2.2.ne_own ho e.symm)⟩
theorem C12.ab {g2 n0 kb gq n : Nat} {o o2 : Value} {p : ByteArray} {pa pb pc pd pe : Int} {cur : Array Value} {f : Pr → Option Value} {W W' : World} {B0 m : Nat} {zs : List Value} (h : C12 g2 n0 kb gq n o p pa pb pc pd pe cur f W) (hA : AppBody B0 (g2 + 1 + 1) 32 40 3 m o2 zs W W') :
    Blk W' (g2 + 1 + 1 + 1 + 1) 80 #[.map (some (g2 + 1 + 1 + 1))] ∧ Blk W' kb 78 #[.int .i64 pa, .int .i64 pb, .int .u32 pc, .int .i64 pd, .int .u32 pe] ∧ MapV W' Tryz.prog 78 litP okP (g2 + 1 + 1 + 1) n f ∧ W'.heap[gq]? = W.heap[gq]? :=
  ⟨hA.far _ _ _ h.2.1 (by decide) (by omega), hA.far _ _ _ h.2.2.2.1 (by decide) (fun e => by
      have := h.2.2.2.1
      rw [e] at this
      exact absurd (hA.typ _ _ this) (by decide)), by
    obtain ⟨es, cl, h0⟩ := h.2.2.2.2.2.obj
    exact h.2.2.2.2.2.same ((hA.keeps.same _ _ h0 rfl).trans h0.symm), by
    have := hA.far _ _ _ h.2.2.2.2.1 (by decide) (fun e => by
      have := h.2.2.2.2.1
      rw [e] at this
      exact absurd (hA.typ _ _ this) (by decide))
    exact (show W'.heap[gq]? = _ from this).trans (show W.heap[gq]? = _ from h.2.2.2.2.1).symm⟩
/-- what the region of the queue reads -/
def C6 (g2 nb n0 : Nat) (a b c : Int) (d p : ByteArray) (W : World) : Prop := Blk W (g2 + 1 + 1 + 1 + 1) 80 #[.map (some (g2 + 1 + 1 + 1))] ∧ Blk W nb 54 #[.int .i64 a, .int .i64 b, .int .u32 c, .string d] ∧ Blk W n0 40 #[.int .i64 2, .string p, .string ⟨#[]⟩]
theorem C6.keep {g2 nb n0 : Nat} {a b c : Int} {d p : ByteArray} {W W' : World} {B0 : Nat} (h : C6 g2 nb n0 a b c d p W) (hk : KeepR B0 tsQ W W') : C6 g2 nb n0 a b c d p W' :=
  ⟨hk.row _ _ _ h.1 (by decide), hk.row _ _ _ h.2.1 (by decide), hk.row _ _ _ h.2.2 (by decide)⟩
theorem C6.app {g2 nb n0 : Nat} {a b c : Int} {d p : ByteArray} {W W' : World} {base n : Nat} {v : Value} {zs : List Value} (h : C6 g2 nb n0 a b c d p W) (ho : W.ownsRow base 9 1 v n zs) (hg : W.grownBy W' v.ownBlock) : C6 g2 nb n0 a b c d p W' :=
  ⟨h.1.grown hg (fun e => own_ne_blk ho h.1 (by decide) e.symm), h.2.1.grown hg (fun e => own_ne_blk ho h.2.1 (by decide) e.symm), h.2.2.grown hg (fun e => own_ne_blk ho h.2.2 (by decide) e.symm)⟩
set_option maxRecDepth 100000 in
set_option maxHeartbeats 8000000 in
theorem moves_any (w : World) (bt bm bt2 bm2 : Nat) (xs ys : List NE) (hT : TreeAt w bt bm xs) (hT2 : TreeAt w bt2 bm2 ys) (hxi : TI xs) (hyi : TI ys) (hxl : xs.length ≤ 1000) (hyl : ys.length ≤ 1000)
    (hxt : ∀ e ∈ xs, 0 ≤ e.2.time ∧ e.2.time < 4294967296) (hyt : ∀ e ∈ ys, 0 ≤ e.2.time ∧ e.2.time < 4294967296) (hxd : ∀ e ∈ xs, e.2.data.size ≤ maxLen) (hyd : ∀ e ∈ ys, e.2.data.size ≤ maxLen) :
    Calls Tryz.prog 15 #[.pointer (some ⟨bt, 0, none⟩), .pointer (some ⟨bt2, 0, none⟩)] w fun e w' => ∃ u, e = .returned u ∧ OwnC w' w.heap.size u (mvO (movesP xs ys)) ∧ Below w.heap.size w w' := by
  have hxp : ∀ e ∈ xs, e.1.size ≤ 90000 := fun e he => hT.ok (n := e.2) he
  have hyp : ∀ e ∈ ys, e.1.size ≤ 90000 := fun e he => hT2.ok (n := e.2) he
  obtain ⟨W0, hW0⟩ : ∃ W0, (((((w.alloc (.cells #[.pointer (some ⟨bt, 0, none⟩)] 26)).alloc (.cells #[.pointer (some ⟨bt2, 0, none⟩)] 26)).alloc (.cells #[.slice none 0 0] 32)).alloc (.map #[] 0)).alloc (.cells #[.map (some (w.heap.size + 1 + 1 + 1))] 80)) = W0 := ⟨_, rfl⟩
  have hb1 : Below w.heap.size w W0 := by rw [← hW0]; exact (((((Below.refl _ w).alloc (Nat.le_refl _) _).alloc (by simp) _).alloc (by simp; omega) _).alloc (by simp; omega) _).alloc (by simp; omega) _
  have e0 : Blk W0 w.heap.size 26 #[.pointer (some ⟨bt, 0, none⟩)] := by rw [← hW0]; exact ((((Blk.new _ _ _).alloc _).alloc _).alloc _).alloc _
  have e1 : Blk W0 (w.heap.size + 1) 26 #[.pointer (some ⟨bt2, 0, none⟩)] := by rw [← hW0]; exact (((blk_snd _ _ _ _).alloc _).alloc _).alloc _
  have e2 : Blk W0 (w.heap.size + 1 + 1) 32 #[.slice none 0 0] := by rw [← hW0]; exact ((blk_trd _ _ _ _ _).alloc _).alloc _
  have e4 : Blk W0 (w.heap.size + 1 + 1 + 1 + 1) 80 #[.map (some (w.heap.size + 1 + 1 + 1))] := by
    rw [← hW0]
    have := Blk.new ((((w.alloc (.cells #[.pointer (some ⟨bt, 0, none⟩)] 26)).alloc (.cells #[.pointer (some ⟨bt2, 0, none⟩)] 26)).alloc (.cells #[.slice none 0 0] 32)).alloc (.map #[] 0)) 80 #[.map (some (w.heap.size + 1 + 1 + 1))]
    simpa using this
  have e3 : GoneF xs w.heap.size (w.heap.size + 1 + 1 + 1) [] (fun _ => none) W0 := by
    rw [← hW0]
    have h0 := MapV.made (((w.alloc (.cells #[.pointer (some ⟨bt, 0, none⟩)] 26)).alloc (.cells #[.pointer (some ⟨bt2, 0, none⟩)] 26)).alloc (.cells #[.slice none 0 0] 32)) Tryz.prog 78 litP okP
    have h1 := h0.kept (World.grownBy_alloc _ (.cells #[.map (some (w.heap.size + 1 + 1 + 1))] 80) none) (by simp)
    refine ⟨by simpa using h1, fun k hk => ?_, fun k k' _ _ _ u u' g h => by cases h⟩
    show goneQ xs [] k = []
    rfl
  obtain ⟨g2, hg2⟩ : ∃ g, w.heap.size = g := ⟨_, rfl⟩
  have hG0 : G1 xs ys g2 (g2 + 1 + 1 + 1) (g2 + 1 + 1 + 1 + 1) (g2 + 1 + 1) g2 (g2 + 1) bt bm bt2 bm2 w [] W0 := by
    rw [hg2] at hb1 e0 e1 e2 e3 e4
    exact ⟨⟨_, e3⟩, e4, e2, e0, e1, hT.below (by rw [hg2]; exact hb1), hT2.below (by rw [hg2]; exact hb1), hb1⟩
  obtain ⟨W1, hW1⟩ : ∃ W1, (W0.alloc (.cells #[.pointer (some ⟨bt, 0, none⟩)] 26)).alloc (.cells #[.pointer (some ⟨bt2, 0, none⟩)] 26) = W1 := ⟨_, rfl⟩
  have hb01 : Below W0.heap.size W0 W1 := by rw [← hW1]; exact ((Below.refl _ W0).alloc (Nat.le_refl _) _).alloc (by simp) _
  have hG1 := hG0.below (by rw [← hg2]; exact hb1.size) hb01
  have l1 : Blk W1 W0.heap.size 26 #[.pointer (some ⟨bt, 0, none⟩)] := by rw [← hW1]; exact blk_fst _ _ _ _
  have l2 : Blk W1 (W0.heap.size + 1) 26 #[.pointer (some ⟨bt2, 0, none⟩)] := by rw [← hW1]; exact blk_snd _ _ _ _
  have hB1 : g2 ≤ W1.heap.size := by rw [← hg2]; exact Nat.le_trans hb1.size hb01.size
  have HT1 := Lib.hid (diffEach_tells 19 (by omega) tsQ keepOkQ g2 W1 hB1 W0.heap.size (W0.heap.size + 1) bt bm bt2 bm2 xs ys l1 l2 hG1.t hG1.t2 hxi hyi hxl hyl hxd hyd)
  have H1 := Lib.hid (And.intro hG1 hB1)
  have HEc := Lib.hid (diffEach_any W0 bt bt2)
  have x0 := e0.cell 0
  have x1 := e1.cell 0
  simp only [List.getElem?_toArray, List.getElem?_cons_zero] at x0 x1
  have hmb1 : g2 + 1 + 1 + 1 < W1.heap.size := by obtain ⟨f, hf⟩ := hG1.q; exact hf.map.lt
  rw [hW1] at HEc
  rw [hg2] at hW0 x0 x1
  have HX := Lib.hid (And.intro hxi (And.intro hyi (And.intro hxl (And.intro hyl (And.intro hxt (And.intro hyt (And.intro hxd hyd)))))))
  have HPP := Lib.hid (And.intro hxp hyp)
  clear hT hT2 hb1 e0 e1 e2 e3 e4 hG0 hb01 hG1 l1 l2 hB1 hxi hyi hxl hyl hxt hyt hxd hyd hxp hyp
  refine callsIn_wide.1 (?_ : CallsIn Fence.wide 20 _ _ _ _ _)
  refine callsIn_of_wp_marks Tryz.func15 rfl trivial ?_ rfl
  simp only [Tryz.ntmps15, List.size_toArray, List.length_cons, List.length_nil, Nat.reduceAdd, Nat.reduceSub, Array.replicate_succ, Array.replicate_zero, List.push_toArray, List.append_toArray, List.nil_append, List.cons_append]
  have hmm := @run_makeMap Tryz.prog
  rw [hg2]
  have HG := Lib.hid hg2
  gi_wp2
  refine ⟨trivial, (callsIn_wide.2 HEc.out).mono ?_⟩
  rintro e V ⟨rfl, rfl⟩
  obtain ⟨S0, hS0⟩ : ∃ n, W0.heap.size = n := ⟨_, rfl⟩
  rw [hS0] at HT1 ⊢
  clear x0 x1 HEc hW0 hmm
  gi_wp2
  refine wpIn_rangeFunc_in (Mine := fun _ => False) (fun _ h => h.elim) rfl (by omega) (gf := 30) (lb := #[.pointer (some ⟨S0, 0, none⟩), .pointer (some ⟨S0 + 1, 0, none⟩)]) rfl trivial (enters_of Tryz.func30 (by kernel_rfl) rfl)
    HT1.out KeepR.trans (fun W l o o' hl h => keepR_b _ (by have := H1.out.2; omega) h rfl) (Below.refl _ _) (fun _ => rfl)
    (G1 xs ys g2 (g2 + 1 + 1 + 1) (g2 + 1 + 1 + 1 + 1) (g2 + 1 + 1) g2 (g2 + 1) bt bm bt2 bm2 w)
    (fun c pre V => False)
    (G1.own hmb1 (by omega)) (fun c s A C row h hg hr => h.elim)
    H1.out.1
    ?a1 (fun x V => V.alloc (.cells #[.int .i64 x.1, .string x.2, .string ⟨#[]⟩] 40))
    (fun x n0 pre V => G1 xs ys g2 (g2 + 1 + 1 + 1) (g2 + 1 + 1 + 1 + 1) (g2 + 1 + 1) g2 (g2 + 1) bt bm bt2 bm2 w pre V ∧ Blk V n0 40 #[.int .i64 x.1, .string x.2, .string ⟨#[]⟩])
    (fun x n0 s A C row h hg hr => ⟨G1.own hmb1 (by omega) s A C row h.1 hg hr, blk_ownF h.2 hg (fun r e => ((hr r e).resolve_left id).2)⟩)
    ?made ?assign ?body ?done ?stop
  case assign =>
    intro l2 x n0 V hn0 K hK
    gi_wp2
    exact hK
  case made =>
    intro pre x V hI hTl
    have hba := (Below.refl V.heap.size V).alloc (Nat.le_refl _) (.cells #[.int .i64 x.1, .string x.2, .string ⟨#[]⟩] 40)
    have hBV : g2 ≤ V.heap.size := by obtain ⟨f, hf⟩ := hI.q; have := hf.map.lt; omega
    exact ⟨⟨hI.below hBV hba, Blk.new _ _ _⟩, keeps_belowF hba, KeepR.below hba hBV⟩
  case body =>
    rintro l pre ⟨kk, p⟩ n0 V ⟨hI, hX⟩ hTl hsV
    have hBV : g2 ≤ V.heap.size := by obtain ⟨f, hf⟩ := hI.q; have := hf.map.lt; omega
    have hpl : pre.length + 1 ≤ 2000 := by
      obtain ⟨r, hr⟩ := hTl
      have h1 := congrArg List.length hr
      have h2 := each_len xs ys
      have h3 := HX.out.2.2.1
      have h4 := HX.out.2.2.2.1
      simp only [List.length_append, List.length_cons, List.length_nil] at h1
      omega
    have hpp : p.size ≤ 90000 := by
      obtain ⟨r, hr⟩ := hTl
      have := each_in (c := (kk, p)) (by rw [← hr]; simp)
      rcases List.mem_append.1 this with h | h
      · obtain ⟨e, he, rfl⟩ := List.mem_map.1 h; exact HPP.out.1 e he
      · obtain ⟨e, he, rfl⟩ := List.mem_map.1 h; exact HPP.out.2 e he
    have hkk : kk = 1 ∨ kk = 2 ∨ kk = 3 ∨ kk = 5 := by
      obtain ⟨r, hr⟩ := hTl
      exact eachP_four xs ys (kk, p) (by rw [← hr]; simp)
    have HGT := Lib.hid (treeGet_any V bt bm xs p hI.t (by have := HX.out.2.2.1; omega) hpp)
    have hok := okP_getT HX.out.1 HX.out.2.2.2.2.1 HX.out.2.2.2.2.2.2.1 p
    have hnd := getT_szD (p := p) HX.out.1.up HX.out.2.2.2.2.2.2.1
    obtain ⟨nd, hnde⟩ : ∃ nd, getT xs p = nd := ⟨_, rfl⟩
    have HN := Lib.hid hnde
    rw [hnde] at HGT hok hnd
    have x0 := hI.p2.cell 0
    have z0 := hX.cell 0
    have z1 := hX.cell 1
    have z2 := hX.cell 2
    simp only [List.getElem?_toArray, List.getElem?_cons_succ, List.getElem?_cons_zero] at x0 z0 z1 z2
    have HF := Lib.hid (fun W => diffFile_any W nd)
    have HPR := Lib.hid (fun W => print_any W nd hnd)
    have HI := Lib.hid (And.intro hI (And.intro hX (And.intro hBV hok)))
    clear hI hX hTl hBV hok hnde hnd
    obtain ⟨a, b, c, d⟩ := nd
    simp only [Nd.c] at HGT HF HPR
    obtain ⟨pr, hpr⟩ : ∃ pr, printN ⟨a, b, c, d⟩ = pr := ⟨_, rfl⟩
    obtain ⟨fl, hfl⟩ : ∃ fl, fileN ⟨a, b, c, d⟩ = fl := ⟨_, rfl⟩
    simp only [hfl] at HF
    have HQ := Lib.hid (And.intro hpr hfl)
    simp only [hpr] at HI HPR
    clear hpr hfl
    obtain ⟨pa, pb, pc, pd, pe⟩ := pr
    simp only [Pr.c] at HPR
    gi_wp2
    refine ((callsIn_wide.2 HGT.out).inRound l).mono ?_
    rintro e V1 ⟨rfl, hb1⟩
    obtain ⟨V2, hV2⟩ : ∃ V2, V1.alloc (.cells #[.int .i64 a, .int .i64 b, .int .u32 c, .string d] 54) = V2 := ⟨_, rfl⟩
    obtain ⟨nb, hnb⟩ : ∃ n, V1.heap.size = n := ⟨_, rfl⟩
    have hN2 : Blk V2 nb 54 #[.int .i64 a, .int .i64 b, .int .u32 c, .string d] := by rw [← hV2, ← hnb]; exact Blk.new _ _ _
    have hb2 : Below V.heap.size V V2 := hb1.trans (by rw [← hV2]; exact (Below.refl _ V1).alloc hb1.size _)
    have H2 := Lib.hid (And.intro hb2 (And.intro hN2 (HI.out.2.1.below hb2 HI.out.2.1.lt)))
    have y0 := H2.out.2.2.cell 0
    have y1 := H2.out.2.2.cell 1
    have y2 := H2.out.2.2.cell 2
    have n0' := hN2.cell 0
    have n1' := hN2.cell 1
    have n2' := hN2.cell 2
    have n3' := hN2.cell 3
    simp only [List.getElem?_toArray, List.getElem?_cons_succ, List.getElem?_cons_zero] at y0 y1 y2 n0' n1' n2' n3'
    clear x0 z0 z1 z2 hb1 hN2 hb2 HGT
    by_cases hk2 : kk = 2
    · subst hk2
      gi_wp2
      refine ((callsIn_wide.2 (HF.out _)).inRound l).mono ?_
      rintro e V3 ⟨rfl, hb3⟩
      have H3 := Lib.hid hb3
      clear hb3 hV2 hnb HF
      cases fl with
      | false =>
        gi_wp2
        exact HI.out.1.skip HI.out.2.2.1 (H2.out.1.trans (H3.out.mono H2.out.1.size)) (fun h => by
          have h2 := h.2
          simp only [HN.out, HQ.out.2] at h2
          cases h2)
      | true =>
        gi_wp2
        have HK := Lib.hid (show fileN (getT xs p) = true ∧ printN (getT xs p) = ⟨pa, pb, pc, pd, pe⟩ by rw [HN.out]; exact ⟨HQ.out.2, HQ.out.1⟩)
        obtain ⟨f, hf⟩ := HI.out.1.q
        have HA := Lib.hid (H2.out.1.trans (H3.out.mono H2.out.1.size))
        have HGF := Lib.hid (fun U (h : Aft V3 U) => (hf.below HA.out).below h)
        have hN3 := H2.out.2.1.below H3.out H2.out.2.1.lt
        have hC3 := H2.out.2.2.below H3.out H2.out.2.2.lt
        have hM3 := HI.out.1.mc.below HA.out HI.out.1.mc.lt
        have HC0 := Lib.hid (Aft.start V3)
        have HC := Lib.hid (fun U (h : Aft V3 U) => (show C6 g2 nb n0 a b c d p U from ⟨hM3.below h hM3.lt, hN3.below h hN3.lt, hC3.below h hC3.lt⟩))
        have HMg := Lib.hid (fun U X (h : Aft V3 U) (hg : U.grownBy X ((f ⟨pa, pb, pc, pd, pe⟩).getD (.slice none 0 0)).ownBlock) => ((HGF.out U h).map.kept hg (fun e => (HGF.out U h).map.ne_own ((HGF.out U h).q _ HI.out.2.2.2).own e.symm)))
        have HCg := Lib.hid (fun U X (h : Aft V3 U) (hg : U.grownBy X ((f ⟨pa, pb, pc, pd, pe⟩).getD (.slice none 0 0)).ownBlock) => C6.app (HC.out U h) ((HGF.out U h).q _ HI.out.2.2.2).own hg)
        have HCe := Lib.hid (fun U X (h : Aft V3 U) (hk : KeepR g2 tsQ U X) => C6.keep (HC.out U h) hk)
        clear y0 y1 y2 n0' n1' n2' n3' hf hN3 hC3 hM3
        have q0 : ∀ m : Held (C6 g2 nb n0 a b c d p), (HeldW m).cell? ⟨g2 + 1 + 1 + 1 + 1, 0, none⟩ = some (.map (some (g2 + 1 + 1 + 1))) := fun m => by have := (HeldW_spec m).1.cell 0; simpa using this
        have q1 : ∀ m : Held (C6 g2 nb n0 a b c d p), (HeldW m).cell? ⟨nb, 0, none⟩ = some (.int .i64 a) := fun m => by have := (HeldW_spec m).2.1.cell 0; simpa using this
        have q2 : ∀ m : Held (C6 g2 nb n0 a b c d p), (HeldW m).cell? ⟨nb, 1, none⟩ = some (.int .i64 b) := fun m => by have := (HeldW_spec m).2.1.cell 1; simpa using this
        have q3 : ∀ m : Held (C6 g2 nb n0 a b c d p), (HeldW m).cell? ⟨nb, 2, none⟩ = some (.int .u32 c) := fun m => by have := (HeldW_spec m).2.1.cell 2; simpa using this
        have q4 : ∀ m : Held (C6 g2 nb n0 a b c d p), (HeldW m).cell? ⟨nb, 3, none⟩ = some (.string d) := fun m => by have := (HeldW_spec m).2.1.cell 3; simpa using this
        have q5 : ∀ m : Held (C6 g2 nb n0 a b c d p), (HeldW m).cell? ⟨n0, 1, none⟩ = some (.string p) := fun m => by have := (HeldW_spec m).2.2.cell 1; simpa using this
        refine wpIn_region_mixT (C6 g2 nb n0 a b c d p) (.first 0 (.first 1 (.first 3 (.first 4 (.first 7 (.first 8 (.two 2 (.two 5 (.two 6 (.forced 9 (.forced 10 (.forced 11 .nil))) 9 (.forced 6 (.forced 10 (.forced 11 .nil)))) 9 (.forced 5 (.forced 6 (.forced 10 (.forced 11 .nil))))) 9 (.forced 2 (.forced 5 (.forced 6 (.forced 10 (.forced 11 .nil)))))))))))) (by kernel_rfl) (by kernel_rfl) ?_
        simp only [pickT, List.getElem?_toArray, List.getElem?_cons_succ, List.getElem?_cons_zero]
        repeat (apply mixT_first; apply Exists.intro; refine ⟨fun m => ?_, HC.out _ HC0.out, ?_⟩; · (go_big_quiet_step (fail); exact wpQuiet_nil rfl))
        clear q0 q1 q2 q3 q4 q5
        refine mixT_two (HC.out _ (HC0.out)) ?_ ?_
        · go_wp2_with fail
          refine (HPR.out _).mono ?_
          rintro e U1 ⟨rfl, hu1⟩
          have A1 := Lib.hid (show Aft V3 U1 from Aft.keep _ _ (HC0.out) hu1)
          clear hu1
          go_wp2_with fail
          show mixT _ _ _ _ _ _ _
          refine mixT_two (HC.out _ (A1.out)) ?_ ?_
          · go_wp2_with fail
            refine (HPR.out _).mono ?_
            rintro e U2 ⟨rfl, hu2⟩
            have A2 := Lib.hid (show Aft V3 U2 from Aft.keep _ _ (A1.out) hu2)
            clear hu2
            go_wp2_with fail
            show mixT _ _ _ _ _ _ _
            refine mixT_two (HC.out _ (A2.out)) ?_ ?_
            · go_wp2_with (at_lookup; refine wpList_lookV rfl _ _ 80 rfl 71 keyPr Tryz.underlying80 (zeroSlS _) (g2 + 1 + 1 + 1) _ _ rfl (HGF.out _ (A2.out)).map ⟨pa, pb, pc, pd, pe⟩ rfl HI.out.2.2.2 ?_)
              show mixT _ _ _ _ _ _ _
              refine mixT_forced (HC.out _ (A2.out)) ?_
              obtain ⟨gs4, hgs4⟩ : ∃ n, (U2).heap.size = n := ⟨_, rfl⟩
              obtain ⟨U4, hU4⟩ : ∃ U, (U2).alloc (.cells #[.string p] 9) = U := ⟨_, rfl⟩
              have A4 := Lib.hid (show Aft V3 U4 by rw [← hU4]; exact Below.alloc (A2.out) (A2.out).size _)
              have S4 := Lib.hid (show Blk U4 gs4 9 #[.string p] by rw [← hU4, ← hgs4]; exact Blk.new _ _ _)
              go_wp2_with fail
              show mixT _ _ _ _ _ _ _
              clear hU4 hgs4
              refine mixT_forced (HC.out _ (A4.out)) ?_
              go_wp2_with (at_builtin; refine wpList_app rfl _ _ 71 rfl g2 9 (.string ⟨#[]⟩) 1 16 Tryz.underlying71 infoStr rfl (by decide) _ _ _ rfl ((HGF.out _ (A4.out)).q _ HI.out.2.2.2).own gs4 1 #[.string p] 9 rfl S4.out rfl (by intro u hu; simp at hu; subst hu; rfl) (by have := goneQ_len xs pre ⟨pa, pb, pc, pd, pe⟩; omega) (by decide) (Nat.le_trans HI.out.2.2.1 (Nat.le_trans HA.out.size (A4.out).size)) _ rfl ?_; intro g cap X hown hgr hbk hgl)
              show mixT _ _ _ _ _ _ _
              refine mixT_forced (HCg.out _ _ (A4.out) hgr) ?_
              go_wp2_with (at_mapUpdate; refine wpList_storeV rfl _ _ _ 80 rfl 71 keyPr Tryz.underlying80 (g2 + 1 + 1 + 1) _ _ rfl (HMg.out _ _ (A4.out) hgr) (by unfold maxLen; omega) ⟨pa, pb, pc, pd, pe⟩ rfl HI.out.2.2.2 _ rfl ?_; intro Y hY hgY)
              show mixT _ _ _ _ _ _ _
              have HE := Lib.hid (GoneF.add (HGF.out _ (A4.out)) (c := (2, p)) ⟨rfl, HK.out.1⟩ HK.out.2 HI.out.2.2.2 hown hgr hbk hY hgY (by omega))
              refine mixT_nil (HCe.out _ _ (A4.out) HE.out.2.2.1) ?_
              have hsz := Nat.le_trans hgr.size hgY.size
              have hAb := HA.out.trans ((A4.out).mono HA.out.size)
              clear hown hgr hbk hgl hY hgY
              gi_wp2
              exact G1.add HI.out.1 hmb1 hAb HI.out.2.2.1 HE.out.1 HE.out.2.2.1 HE.out.2.2.2 hsz
            · obtain ⟨gs3, hgs3⟩ : ∃ n, (U2).heap.size = n := ⟨_, rfl⟩
              obtain ⟨U3, hU3⟩ : ∃ U, (U2).alloc (.cells #[.string p] 9) = U := ⟨_, rfl⟩
              have A3 := Lib.hid (show Aft V3 U3 by rw [← hU3]; exact Below.alloc (A2.out) (A2.out).size _)
              have S3 := Lib.hid (show Blk U3 gs3 9 #[.string p] by rw [← hU3, ← hgs3]; exact Blk.new _ _ _)
              go_wp2_with fail
              show mixT _ _ _ _ _ _ _
              clear hU3 hgs3
              refine mixT_forced (HC.out _ (A3.out)) ?_
              go_wp2_with (at_lookup; refine wpList_lookV rfl _ _ 80 rfl 71 keyPr Tryz.underlying80 (zeroSlS _) (g2 + 1 + 1 + 1) _ _ rfl (HGF.out _ (A3.out)).map ⟨pa, pb, pc, pd, pe⟩ rfl HI.out.2.2.2 ?_)
              show mixT _ _ _ _ _ _ _
              refine mixT_forced (HC.out _ (A3.out)) ?_
              go_wp2_with (at_builtin; refine wpList_app rfl _ _ 71 rfl g2 9 (.string ⟨#[]⟩) 1 16 Tryz.underlying71 infoStr rfl (by decide) _ _ _ rfl ((HGF.out _ (A3.out)).q _ HI.out.2.2.2).own gs3 1 #[.string p] 9 rfl S3.out rfl (by intro u hu; simp at hu; subst hu; rfl) (by have := goneQ_len xs pre ⟨pa, pb, pc, pd, pe⟩; omega) (by decide) (Nat.le_trans HI.out.2.2.1 (Nat.le_trans HA.out.size (A3.out).size)) _ rfl ?_; intro g cap X hown hgr hbk hgl)
              show mixT _ _ _ _ _ _ _
              refine mixT_forced (HCg.out _ _ (A3.out) hgr) ?_
              go_wp2_with (at_mapUpdate; refine wpList_storeV rfl _ _ _ 80 rfl 71 keyPr Tryz.underlying80 (g2 + 1 + 1 + 1) _ _ rfl (HMg.out _ _ (A3.out) hgr) (by unfold maxLen; omega) ⟨pa, pb, pc, pd, pe⟩ rfl HI.out.2.2.2 _ rfl ?_; intro Y hY hgY)
              show mixT _ _ _ _ _ _ _
              have HE := Lib.hid (GoneF.add (HGF.out _ (A3.out)) (c := (2, p)) ⟨rfl, HK.out.1⟩ HK.out.2 HI.out.2.2.2 hown hgr hbk hY hgY (by omega))
              refine mixT_nil (HCe.out _ _ (A3.out) HE.out.2.2.1) ?_
              have hsz := Nat.le_trans hgr.size hgY.size
              have hAb := HA.out.trans ((A3.out).mono HA.out.size)
              clear hown hgr hbk hgl hY hgY
              gi_wp2
              exact G1.add HI.out.1 hmb1 hAb HI.out.2.2.1 HE.out.1 HE.out.2.2.1 HE.out.2.2.2 hsz
          · obtain ⟨gs2, hgs2⟩ : ∃ n, (U1).heap.size = n := ⟨_, rfl⟩
            obtain ⟨U2, hU2⟩ : ∃ U, (U1).alloc (.cells #[.string p] 9) = U := ⟨_, rfl⟩
            have A2 := Lib.hid (show Aft V3 U2 by rw [← hU2]; exact Below.alloc (A1.out) (A1.out).size _)
            have S2 := Lib.hid (show Blk U2 gs2 9 #[.string p] by rw [← hU2, ← hgs2]; exact Blk.new _ _ _)
            go_wp2_with fail
            show mixT _ _ _ _ _ _ _
            clear hU2 hgs2
            refine mixT_forced (HC.out _ (A2.out)) ?_
            go_wp2_with fail
            refine (HPR.out _).mono ?_
            rintro e U3 ⟨rfl, hu3⟩
            have A3 := Lib.hid (show Aft V3 U3 from Aft.keep _ _ (A2.out) hu3)
            have S3 := Lib.hid (Blk.below (S2.out) hu3 (S2.out).lt)
            clear hu3
            go_wp2_with fail
            show mixT _ _ _ _ _ _ _
            refine mixT_forced (HC.out _ (A3.out)) ?_
            go_wp2_with (at_lookup; refine wpList_lookV rfl _ _ 80 rfl 71 keyPr Tryz.underlying80 (zeroSlS _) (g2 + 1 + 1 + 1) _ _ rfl (HGF.out _ (A3.out)).map ⟨pa, pb, pc, pd, pe⟩ rfl HI.out.2.2.2 ?_)
            show mixT _ _ _ _ _ _ _
            refine mixT_forced (HC.out _ (A3.out)) ?_
            go_wp2_with (at_builtin; refine wpList_app rfl _ _ 71 rfl g2 9 (.string ⟨#[]⟩) 1 16 Tryz.underlying71 infoStr rfl (by decide) _ _ _ rfl ((HGF.out _ (A3.out)).q _ HI.out.2.2.2).own gs2 1 #[.string p] 9 rfl S3.out rfl (by intro u hu; simp at hu; subst hu; rfl) (by have := goneQ_len xs pre ⟨pa, pb, pc, pd, pe⟩; omega) (by decide) (Nat.le_trans HI.out.2.2.1 (Nat.le_trans HA.out.size (A3.out).size)) _ rfl ?_; intro g cap X hown hgr hbk hgl)
            show mixT _ _ _ _ _ _ _
            refine mixT_forced (HCg.out _ _ (A3.out) hgr) ?_
            go_wp2_with (at_mapUpdate; refine wpList_storeV rfl _ _ _ 80 rfl 71 keyPr Tryz.underlying80 (g2 + 1 + 1 + 1) _ _ rfl (HMg.out _ _ (A3.out) hgr) (by unfold maxLen; omega) ⟨pa, pb, pc, pd, pe⟩ rfl HI.out.2.2.2 _ rfl ?_; intro Y hY hgY)
            show mixT _ _ _ _ _ _ _
            have HE := Lib.hid (GoneF.add (HGF.out _ (A3.out)) (c := (2, p)) ⟨rfl, HK.out.1⟩ HK.out.2 HI.out.2.2.2 hown hgr hbk hY hgY (by omega))
            refine mixT_nil (HCe.out _ _ (A3.out) HE.out.2.2.1) ?_
            have hsz := Nat.le_trans hgr.size hgY.size
            have hAb := HA.out.trans ((A3.out).mono HA.out.size)
            clear hown hgr hbk hgl hY hgY
            gi_wp2
            exact G1.add HI.out.1 hmb1 hAb HI.out.2.2.1 HE.out.1 HE.out.2.2.1 HE.out.2.2.2 hsz
        · obtain ⟨gs1, hgs1⟩ : ∃ n, (V3.drew).heap.size = n := ⟨_, rfl⟩
          obtain ⟨U1, hU1⟩ : ∃ U, (V3.drew).alloc (.cells #[.string p] 9) = U := ⟨_, rfl⟩
          have A1 := Lib.hid (show Aft V3 U1 by rw [← hU1]; exact Below.alloc (HC0.out) (HC0.out).size _)
          have S1 := Lib.hid (show Blk U1 gs1 9 #[.string p] by rw [← hU1, ← hgs1]; exact Blk.new _ _ _)
          go_wp2_with fail
          show mixT _ _ _ _ _ _ _
          clear hU1 hgs1
          refine mixT_forced (HC.out _ (A1.out)) ?_
          go_wp2_with fail
          refine (HPR.out _).mono ?_
          rintro e U2 ⟨rfl, hu2⟩
          have A2 := Lib.hid (show Aft V3 U2 from Aft.keep _ _ (A1.out) hu2)
          have S2 := Lib.hid (Blk.below (S1.out) hu2 (S1.out).lt)
          clear hu2
          go_wp2_with fail
          show mixT _ _ _ _ _ _ _
          refine mixT_forced (HC.out _ (A2.out)) ?_
          go_wp2_with fail
          refine (HPR.out _).mono ?_
          rintro e U3 ⟨rfl, hu3⟩
          have A3 := Lib.hid (show Aft V3 U3 from Aft.keep _ _ (A2.out) hu3)
          have S3 := Lib.hid (Blk.below (S2.out) hu3 (S2.out).lt)
          clear hu3
          go_wp2_with fail
          show mixT _ _ _ _ _ _ _
          refine mixT_forced (HC.out _ (A3.out)) ?_
          go_wp2_with (at_lookup; refine wpList_lookV rfl _ _ 80 rfl 71 keyPr Tryz.underlying80 (zeroSlS _) (g2 + 1 + 1 + 1) _ _ rfl (HGF.out _ (A3.out)).map ⟨pa, pb, pc, pd, pe⟩ rfl HI.out.2.2.2 ?_)
          show mixT _ _ _ _ _ _ _
          refine mixT_forced (HC.out _ (A3.out)) ?_
          go_wp2_with (at_builtin; refine wpList_app rfl _ _ 71 rfl g2 9 (.string ⟨#[]⟩) 1 16 Tryz.underlying71 infoStr rfl (by decide) _ _ _ rfl ((HGF.out _ (A3.out)).q _ HI.out.2.2.2).own gs1 1 #[.string p] 9 rfl S3.out rfl (by intro u hu; simp at hu; subst hu; rfl) (by have := goneQ_len xs pre ⟨pa, pb, pc, pd, pe⟩; omega) (by decide) (Nat.le_trans HI.out.2.2.1 (Nat.le_trans HA.out.size (A3.out).size)) _ rfl ?_; intro g cap X hown hgr hbk hgl)
          show mixT _ _ _ _ _ _ _
          refine mixT_forced (HCg.out _ _ (A3.out) hgr) ?_
          go_wp2_with (at_mapUpdate; refine wpList_storeV rfl _ _ _ 80 rfl 71 keyPr Tryz.underlying80 (g2 + 1 + 1 + 1) _ _ rfl (HMg.out _ _ (A3.out) hgr) (by unfold maxLen; omega) ⟨pa, pb, pc, pd, pe⟩ rfl HI.out.2.2.2 _ rfl ?_; intro Y hY hgY)
          show mixT _ _ _ _ _ _ _
          have HE := Lib.hid (GoneF.add (HGF.out _ (A3.out)) (c := (2, p)) ⟨rfl, HK.out.1⟩ HK.out.2 HI.out.2.2.2 hown hgr hbk hY hgY (by omega))
          refine mixT_nil (HCe.out _ _ (A3.out) HE.out.2.2.1) ?_
          have hsz := Nat.le_trans hgr.size hgY.size
          have hAb := HA.out.trans ((A3.out).mono HA.out.size)
          clear hown hgr hbk hgl hY hgY
          gi_wp2
          exact G1.add HI.out.1 hmb1 hAb HI.out.2.2.1 HE.out.1 HE.out.2.2.1 HE.out.2.2.2 hsz
    · have t0 : (kk == 2) = false := by simpa using hk2
      gi_wp2
      exact HI.out.1.skip HI.out.2.2.1 H2.out.1 (fun h => hk2 h.1)
  case done =>
    rintro D zs V hD hzs hI hK
    have hz : zs = eachP xs ys := hzs
    subst hz
    have hBV : g2 ≤ V.heap.size := by obtain ⟨f, hf⟩ := hI.q; have := hf.map.lt; omega
    obtain ⟨W2, hW2⟩ : ∃ W2, (V.alloc (.cells #[.pointer (some ⟨bt, 0, none⟩)] 26)).alloc (.cells #[.pointer (some ⟨bt2, 0, none⟩)] 26) = W2 := ⟨_, rfl⟩
    have hb2 : Below V.heap.size V W2 := by rw [← hW2]; exact ((Below.refl _ V).alloc (Nat.le_refl _) _).alloc (by simp) _
    have hI2 := hI.below hBV hb2
    have l1 : Blk W2 V.heap.size 26 #[.pointer (some ⟨bt, 0, none⟩)] := by rw [← hW2]; exact blk_fst _ _ _ _
    have l2 : Blk W2 (V.heap.size + 1) 26 #[.pointer (some ⟨bt2, 0, none⟩)] := by rw [← hW2]; exact blk_snd _ _ _ _
    have hB2 : g2 ≤ W2.heap.size := Nat.le_trans hBV hb2.size
    have HT2 := Lib.hid (diffEach_tells 19 (by omega) tsG keepOkG g2 W2 hB2 V.heap.size (V.heap.size + 1) bt bm bt2 bm2 xs ys l1 l2 hI2.t hI2.t2 HX.out.1 HX.out.2.1 HX.out.2.2.1 HX.out.2.2.2.1 HX.out.2.2.2.2.2.2.1 HX.out.2.2.2.2.2.2.2)
    have HEc := Lib.hid (diffEach_any V bt bt2)
    have hD2 : W2.heap[D]? = some (.deferred (some [])) := (hb2.block D (Array.getElem?_eq_some_iff.1 hK).1).trans hK
    have hG2 : G2 xs ys (eachP xs ys) g2 (g2 + 1 + 1 + 1) (g2 + 1 + 1 + 1 + 1) (g2 + 1 + 1) (g2 + 1) bt2 bm2 D w [] W2 := by
      obtain ⟨f, hf⟩ := hI2.q
      exact ⟨⟨f, hf.map, fun k hk => (hf.q k hk).qs⟩, hI2.mc, ⟨_, hI2.rc, World.ownsRow_nil _ _ _ _⟩, hI2.p3, hI2.t2, hD2, hI2.low⟩
    have hmb2 : g2 + 1 + 1 + 1 < W2.heap.size := by obtain ⟨f, hf⟩ := hI2.q; exact hf.map.lt
    have hDl : D < W2.heap.size := (Array.getElem?_eq_some_iff.1 hD2).1
    have hDm : D ≠ g2 + 1 + 1 + 1 := by omega
    have hDw : w.heap.size ≤ D := by have := H1.out.2; rw [HG.out]; omega
    rw [hW2] at HEc
    have x0 := hI.p2.cell 0
    have x1 := hI.p3.cell 0
    simp only [List.getElem?_toArray, List.getElem?_cons_zero] at x0 x1
    have H2 := Lib.hid (And.intro hG2 (And.intro hB2 hDw))
    clear hI hK hBV hb2 hI2 l1 l2 hB2 hD2 hG2 HT1 H1 hD
    gi_wp2
    refine ⟨trivial, (callsIn_wide.2 HEc.out).mono ?_⟩
    rintro e V' ⟨rfl, rfl⟩
    obtain ⟨S2, hS2⟩ : ∃ n, V.heap.size = n := ⟨_, rfl⟩
    rw [hS2] at HT2 ⊢
    clear x0 x1 HEc
    gi_wp2
    refine wpIn_rangeFunc_in (Mine := fun _ => False) (fun _ h => h.elim) rfl (by omega) (gf := 30) (lb := #[.pointer (some ⟨S2, 0, none⟩), .pointer (some ⟨S2 + 1, 0, none⟩)]) rfl trivial (enters_of Tryz.func30 (by kernel_rfl) rfl)
      HT2.out KeepR.trans (fun W l o o' hl h => keepR_b _ (by have := H2.out.2.1; omega) h rfl) (Below.refl _ _) (fun _ => rfl)
      (G2 xs ys (eachP xs ys) g2 (g2 + 1 + 1 + 1) (g2 + 1 + 1 + 1 + 1) (g2 + 1 + 1) (g2 + 1) bt2 bm2 D w)
      (fun c pre V => False)
      (G2.own hmb2 (by omega) hDl) (fun c s A C row h hg hr => h.elim)
      H2.out.1
      ?a2 (fun x V => V.alloc (.cells #[.int .i64 x.1, .string x.2, .string ⟨#[]⟩] 40))
      (fun x n0 pre V => G2 xs ys (eachP xs ys) g2 (g2 + 1 + 1 + 1) (g2 + 1 + 1 + 1 + 1) (g2 + 1 + 1) (g2 + 1) bt2 bm2 D w pre V ∧ Blk V n0 40 #[.int .i64 x.1, .string x.2, .string ⟨#[]⟩] ∧ ∃ o, Blk V (g2 + 1 + 1) 32 #[o] ∧ o.ownBlock ≠ some n0)
      (fun x n0 s A C row h hg hr => ⟨G2.own hmb2 (by omega) hDl s A C row h.1 hg hr, blk_ownF h.2.1 hg (fun r e => ((hr r e).resolve_left id).2), by
        obtain ⟨o, ho, hn⟩ := h.2.2
        exact ⟨o, blk_ownF ho hg (fun r e => ((hr r e).resolve_left id).2), hn⟩⟩)
      ?made2 ?assign2 ?body2 ?done2 ?stop2
    case assign2 =>
      intro l2 x n0 V hn0 K hK
      gi_wp2
      exact hK
    case made2 =>
      intro pre x V hI hTl
      have hba := (Below.refl V.heap.size V).alloc (Nat.le_refl _) (.cells #[.int .i64 x.1, .string x.2, .string ⟨#[]⟩] 40)
      have hBV : g2 ≤ V.heap.size := by obtain ⟨f, hf, _⟩ := hI.q; have := hf.lt; omega
      obtain ⟨o, hrc, ho⟩ := hI.rc
      exact ⟨⟨hI.below hBV hba, Blk.new _ _ _, ⟨o, hrc.below hba hrc.lt, own_ne ho _ (Nat.le_refl _)⟩⟩, keeps_belowF hba, KeepR.below hba hBV⟩
    case body2 =>
      rintro l pre ⟨kk, p⟩ n0 V ⟨hI, hX, hnr⟩ hTl hsV
      have hBV : g2 ≤ V.heap.size := by obtain ⟨f, hf, _⟩ := hI.q; have := hf.lt; omega
      have hel : (eachP xs ys).length ≤ 2000 := by
        have h2 := each_len xs ys
        have h3 := HX.out.2.2.1
        have h4 := HX.out.2.2.2.1
        omega
      have hpl : pre.length + 1 ≤ 2000 := by
        obtain ⟨r, hr⟩ := hTl
        have h1 := congrArg List.length hr
        simp only [List.length_append, List.length_cons, List.length_nil] at h1
        omega
      have hpp : p.size ≤ 90000 := by
        obtain ⟨r, hr⟩ := hTl
        have := each_in (c := (kk, p)) (by rw [← hr]; simp)
        rcases List.mem_append.1 this with h | h
        · obtain ⟨e, he, rfl⟩ := List.mem_map.1 h; exact HPP.out.1 e he
        · obtain ⟨e, he, rfl⟩ := List.mem_map.1 h; exact HPP.out.2 e he
      have hkk : kk = 1 ∨ kk = 2 ∨ kk = 3 ∨ kk = 5 := by
        obtain ⟨r, hr⟩ := hTl
        exact eachP_four xs ys (kk, p) (by rw [← hr]; simp)
      have HGT := Lib.hid (treeGet_any V bt2 bm2 ys p hI.t2 (by have := HX.out.2.2.2.1; omega) hpp)
      have hok := okP_getT HX.out.2.1 HX.out.2.2.2.2.2.1 HX.out.2.2.2.2.2.2.2 p
      have hnd := getT_szD (p := p) HX.out.2.1.up HX.out.2.2.2.2.2.2.2
      obtain ⟨nd, hnde⟩ : ∃ nd, getT ys p = nd := ⟨_, rfl⟩
      have HN := Lib.hid hnde
      rw [hnde] at HGT hok hnd
      have x0 := hI.p3.cell 0
      have z0 := hX.cell 0
      have z1 := hX.cell 1
      have z2 := hX.cell 2
      simp only [List.getElem?_toArray, List.getElem?_cons_succ, List.getElem?_cons_zero] at x0 z0 z1 z2
      have HF := Lib.hid (fun W => diffFile_any W nd)
      have HPR := Lib.hid (fun W => print_any W nd hnd)
      have HI := Lib.hid (And.intro hI (And.intro hX (And.intro hBV (And.intro hok hnr))))
      clear hI hX hTl hBV hok hnde hnd hnr
      obtain ⟨a, b, c, d⟩ := nd
      simp only [Nd.c] at HGT HF HPR
      obtain ⟨pr, hpr⟩ : ∃ pr, printN ⟨a, b, c, d⟩ = pr := ⟨_, rfl⟩
      obtain ⟨fl, hfl⟩ : ∃ fl, fileN ⟨a, b, c, d⟩ = fl := ⟨_, rfl⟩
      simp only [hfl] at HF
      have HQ := Lib.hid (And.intro hpr hfl)
      simp only [hpr] at HI HPR
      clear hpr hfl
      obtain ⟨pa, pb, pc, pd, pe⟩ := pr
      simp only [Pr.c] at HPR
      gi_wp2
      refine ((callsIn_wide.2 HGT.out).inRound l).mono ?_
      rintro e V1 ⟨rfl, hb1⟩
      obtain ⟨V2, hV2⟩ : ∃ V2, V1.alloc (.cells #[.int .i64 a, .int .i64 b, .int .u32 c, .string d] 54) = V2 := ⟨_, rfl⟩
      obtain ⟨nb, hnb⟩ : ∃ n, V1.heap.size = n := ⟨_, rfl⟩
      have hN2 : Blk V2 nb 54 #[.int .i64 a, .int .i64 b, .int .u32 c, .string d] := by rw [← hV2, ← hnb]; exact Blk.new _ _ _
      have hb2 : Below V.heap.size V V2 := hb1.trans (by rw [← hV2]; exact (Below.refl _ V1).alloc hb1.size _)
      have H3 := Lib.hid (And.intro hb2 hN2)
      have n0' := hN2.cell 0
      have n1' := hN2.cell 1
      have n2' := hN2.cell 2
      have n3' := hN2.cell 3
      simp only [List.getElem?_toArray, List.getElem?_cons_succ, List.getElem?_cons_zero] at n0' n1' n2' n3'
      clear x0 z0 z1 z2 hb1 hN2 hb2 HGT
      gi_wp2
      refine ((callsIn_wide.2 (HPR.out _)).inRound l).mono ?_
      rintro e V3 ⟨rfl, hb3⟩
      obtain ⟨V4, hV4⟩ : ∃ V4, V3.alloc (.cells #[.int .i64 pa, .int .i64 pb, .int .u32 pc, .int .i64 pd, .int .u32 pe] 78) = V4 := ⟨_, rfl⟩
      obtain ⟨kb, hkb⟩ : ∃ n, V3.heap.size = n := ⟨_, rfl⟩
      have hK4 : Blk V4 kb 78 #[.int .i64 pa, .int .i64 pb, .int .u32 pc, .int .i64 pd, .int .u32 pe] := by rw [← hV4, ← hkb]; exact Blk.new _ _ _
      have hb34 : Below V2.heap.size V2 V4 := hb3.trans (by rw [← hV4]; exact (Below.refl _ V3).alloc hb3.size _)
      have hb4 : Below V.heap.size V V4 := H3.out.1.trans (hb34.mono H3.out.1.size)
      have H4 := Lib.hid (And.intro hb4 (And.intro (H3.out.2.below hb34 H3.out.2.lt) (And.intro hK4 (HI.out.2.1.below hb4 HI.out.2.1.lt))))
      have nd0 := H4.out.2.1.cell 0
      have nd1 := H4.out.2.1.cell 1
      have nd2 := H4.out.2.1.cell 2
      have nd3 := H4.out.2.1.cell 3
      have y0 := H4.out.2.2.2.cell 0
      have y1 := H4.out.2.2.2.cell 1
      simp only [List.getElem?_toArray, List.getElem?_cons_succ, List.getElem?_cons_zero] at nd0 nd1 nd2 nd3 y0 y1
      clear n0' n1' n2' n3' hb3 hb34 hb4 hK4 hV2 hnb H3
      by_cases hk1 : kk = 1
      · subst hk1
        gi_wp2
        refine ((callsIn_wide.2 (HF.out _)).inRound l).mono ?_
        rintro e V5 ⟨rfl, hb5⟩
        have hb05 := H4.out.1.trans (hb5.mono H4.out.1.size)
        have H5 := Lib.hid (And.intro hb05 (And.intro (H4.out.2.2.1.below hb5 H4.out.2.2.1.lt) (And.intro (H4.out.2.2.2.below hb5 H4.out.2.2.2.lt) (HI.out.1.below HI.out.2.2.1 hb05))))
        clear hb5 hb05 hV4 hkb HF nd0 nd1 nd2 nd3 y0 y1
        cases fl with
        | false =>
          gi_wp2
          exact HI.out.1.skip HI.out.2.2.1 H5.out.1 (by
            unfold mStep
            rw [if_neg (fun h => by
              have h2 := h.2
              simp only [HN.out, HQ.out.2] at h2
              cases h2)])
        | true =>
          have hms : ∀ st : (Pr → List ByteArray) × List (ByteArray × ByteArray), mStep ys st (1, p) = qStep (fun p => printN (getT ys p)) st p := fun st => by
            unfold mStep
            rw [if_pos ⟨rfl, by show fileN (getT ys p) = true; rw [HN.out]; exact HQ.out.2⟩]
          have hkp : printN (getT ys p) = ⟨pa, pb, pc, pd, pe⟩ := by rw [HN.out]; exact HQ.out.1
          have HMS := Lib.hid (And.intro hms hkp)
          obtain ⟨f, hf, hq⟩ := H5.out.2.2.2.q
          have HMV := Lib.hid (And.intro hf hq)
          have hqk := hq ⟨pa, pb, pc, pd, pe⟩ HI.out.2.2.2.1
          have m0 := H5.out.2.2.2.mc.cell 0
          have k0 := H5.out.2.1.cell 0
          have k1 := H5.out.2.1.cell 1
          have k2 := H5.out.2.1.cell 2
          have k3 := H5.out.2.1.cell 3
          have k4 := H5.out.2.1.cell 4
          simp only [List.getElem?_toArray, List.getElem?_cons_succ, List.getElem?_cons_zero] at m0 k0 k1 k2 k3 k4
          obtain ⟨L, hL⟩ : ∃ L, (pre.foldl (mStep ys) (goneQ xs (eachP xs ys), [])).1 ⟨pa, pb, pc, pd, pe⟩ = L := ⟨_, rfl⟩
          rw [hL] at hqk
          have HL := Lib.hid hL
          have HQL := Lib.hid hqk.getD
          clear hms hkp hf hq hqk hL
          obtain ⟨uq, huq⟩ : ∃ u, (f ⟨pa, pb, pc, pd, pe⟩).getD (.slice none 0 0) = u := ⟨_, rfl⟩
          rw [huq] at HQL
          have HU := Lib.hid huq
          clear huq
          obtain ⟨Aq, cq, rfl, _, _, hq0⟩ := HQL.out
          cases L with
          | nil =>
            simp only [List.length_nil] at HU
            have hlk := HMV.out.1.look keyPr Tryz.underlying80 (zeroSlS _) (x := ⟨pa, pb, pc, pd, pe⟩) HI.out.2.2.2.1
            rw [HU.out] at hlk
            simp only [Pr.c] at hlk
            gi_wp2
            exact HI.out.1.skip HI.out.2.2.1 H5.out.1 (by
              rw [HMS.out.1]
              unfold qStep
              simp only [HMS.out.2, HL.out])
          | cons r t =>
            obtain ⟨gq, oq, curq, rfl, hqB, hqx⟩ := hq0 (by simp)
            have hqr : curq[oq]? = some (.string r) := by
              have h1 := congrArg (fun l => l[0]?) hqx
              simpa [List.getElem?_take, List.getElem?_drop] using h1
            have hLq := HQL.out
            simp only [List.length_cons] at HU hLq
            obtain ⟨T, hT1, hT2, hTb⟩ := tail_lies V5 gq oq cq r t hLq
            have hq1 : ¬ ((t.length + 1 : Nat) : Int) = 0 := by omega
            have hlk := HMV.out.1.look keyPr Tryz.underlying80 (zeroSlS _) (x := ⟨pa, pb, pc, pd, pe⟩) HI.out.2.2.2.1
            rw [HU.out] at hlk
            simp only [Pr.c] at hlk
            gi_wp2
            obtain ⟨o, hrc, hoc⟩ := H5.out.2.2.2.rc
            have hon : o.ownBlock ≠ some n0 := by
              obtain ⟨o', ho', hn'⟩ := HI.out.2.2.2.2
              have h1 := ho'.below H5.out.1 ho'.lt
              unfold Blk at h1 hrc
              rw [hrc] at h1
              cases h1
              exact hn'
            have hC5 : C12 g2 n0 kb gq ((eachP xs ys).length + pre.length) o p pa pb pc pd pe curq f V5.drew := ⟨hrc.drew, H5.out.2.2.2.mc.drew, H5.out.2.2.1.drew, H5.out.2.1.drew, hqB.drew, HMV.out.1.drew⟩
            have HC5 := Lib.hid hC5
            have q0 : ∀ m : Held (C12 g2 n0 kb gq ((eachP xs ys).length + pre.length) o p pa pb pc pd pe curq f), (HeldW m).cell? ⟨g2 + 1 + 1, 0, none⟩ = some o := fun m => by have := (HeldW_spec m).1.cell 0; simpa using this
            have q1 : ∀ m : Held (C12 g2 n0 kb gq ((eachP xs ys).length + pre.length) o p pa pb pc pd pe curq f), (HeldW m).cell? ⟨g2 + 1 + 1 + 1 + 1, 0, none⟩ = some (.map (some (g2 + 1 + 1 + 1))) := fun m => by have := (HeldW_spec m).2.1.cell 0; simpa using this
            have q2 : ∀ m : Held (C12 g2 n0 kb gq ((eachP xs ys).length + pre.length) o p pa pb pc pd pe curq f), (HeldW m).cell? ⟨n0, 1, none⟩ = some (.string p) := fun m => by have := (HeldW_spec m).2.2.1.cell 1; simpa using this
            have q3 : ∀ m : Held (C12 g2 n0 kb gq ((eachP xs ys).length + pre.length) o p pa pb pc pd pe curq f), (HeldW m).cell? ⟨kb, 0, none⟩ = some (.int .i64 pa) := fun m => by have := (HeldW_spec m).2.2.2.1.cell 0; simpa using this
            have q4 : ∀ m : Held (C12 g2 n0 kb gq ((eachP xs ys).length + pre.length) o p pa pb pc pd pe curq f), (HeldW m).cell? ⟨kb, 1, none⟩ = some (.int .i64 pb) := fun m => by have := (HeldW_spec m).2.2.2.1.cell 1; simpa using this
            have q5 : ∀ m : Held (C12 g2 n0 kb gq ((eachP xs ys).length + pre.length) o p pa pb pc pd pe curq f), (HeldW m).cell? ⟨kb, 2, none⟩ = some (.int .u32 pc) := fun m => by have := (HeldW_spec m).2.2.2.1.cell 2; simpa using this
            have q6 : ∀ m : Held (C12 g2 n0 kb gq ((eachP xs ys).length + pre.length) o p pa pb pc pd pe curq f), (HeldW m).cell? ⟨kb, 3, none⟩ = some (.int .i64 pd) := fun m => by have := (HeldW_spec m).2.2.2.1.cell 3; simpa using this
            have q7 : ∀ m : Held (C12 g2 n0 kb gq ((eachP xs ys).length + pre.length) o p pa pb pc pd pe curq f), (HeldW m).cell? ⟨kb, 4, none⟩ = some (.int .u32 pe) := fun m => by have := (HeldW_spec m).2.2.2.1.cell 4; simpa using this
            have q8 : ∀ m : Held (C12 g2 n0 kb gq ((eachP xs ys).length + pre.length) o p pa pb pc pd pe curq f), (HeldW m).cell? ⟨gq, oq, none⟩ = some (.string r) := fun m => by have := (HeldW_spec m).2.2.2.2.1.cell oq; rw [hqr] at this; exact this
            have q9 : ∀ m : Held (C12 g2 n0 kb gq ((eachP xs ys).length + pre.length) o p pa pb pc pd pe curq f), (Instr.lookup 80 (.map (some (g2 + 1 + 1 + 1))) (.agg #[.int .i64 pa, .int .i64 pb, .int .u32 pc, .int .i64 pd, .int .u32 pe]) false).run Tryz.prog (HeldW m) = .ok (.slice (some ⟨gq, oq, none⟩) (t.length + 1) cq) (HeldW m) := fun m => by
              have := (HeldW_spec m).2.2.2.2.2.look keyPr Tryz.underlying80 (zeroSlS _) (x := ⟨pa, pb, pc, pd, pe⟩) HI.out.2.2.2.1
              rw [HU.out] at this
              exact this
            clear hqB hqx hLq hlk hrc m0 k0 k1 k2 k3 k4
            refine wpIn_region_mixD (C12 g2 n0 kb gq ((eachP xs ys).length + pre.length) o p pa pb pc pd pe curq f) [(0, true), (1, true), (2, true), (3, true), (4, true), (5, true), (6, true), (7, true), (8, true), (9, false), (10, false), (11, false)] (by kernel_rfl) (by kernel_rfl) ?_
            simp only [pickP, List.filterMap_cons, List.filterMap_nil, List.getElem?_toArray, List.getElem?_cons_succ, List.getElem?_cons_zero, Option.map_some]
            repeat (apply mixD_first; apply Exists.intro; refine ⟨fun m => ?_, HC5.out, ?_⟩; · (go_big_quiet_step (fail); exact wpQuiet_nil rfl))
            clear q0 q1 q2 q3 q4 q5 q6 q7 q8 q9
            obtain ⟨hd, hnh⟩ : ∃ n, V5.drew.heap.size = n := ⟨_, rfl⟩
            obtain ⟨U1, hU1⟩ : ∃ U, V5.drew.alloc (.cells #[.int .i64 4, .string p, .string r] 40) = U := ⟨_, rfl⟩
            have hu1 : Below V5.drew.heap.size V5.drew U1 := by rw [← hU1]; exact (Below.refl _ _).alloc (Nat.le_refl _) _
            have S1 := Lib.hid (show Blk U1 hd 40 #[.int .i64 4, .string p, .string r] by rw [← hU1, ← hnh]; exact Blk.new _ _ _)
            have hs1 : U1.heap.size = hd + 1 := by rw [← hU1, ← hnh]; simp
            obtain ⟨no, hno⟩ : ∃ n, (mvO (pre.foldl (mStep ys) (goneQ xs (eachP xs ys), [])).2).length = n := ⟨_, rfl⟩
            have hno2 : no ≤ 2000 := by
              have := mfold_len ys pre (goneQ xs (eachP xs ys), [])
              rw [← hno]
              unfold mvO
              rw [List.length_map]
              simp only [List.length_nil] at this
              omega
            have hoc5 : V5.drew.ownsRow g2 40 3 o no ((mvO (pre.foldl (mStep ys) (goneQ xs (eachP xs ys), [])).2).flatMap eCC) := by rw [← hno]; exact hoc.drew
            obtain ⟨Ao, co, rfl, _, _, _⟩ := SlV_of_any hoc5
            have HU1 := Lib.hid (And.intro hu1 (And.intro (hC5.below hu1) (And.intro (own_kept hoc5 hu1) hs1)))
            have HO5 := Lib.hid (And.intro hoc5 (And.intro hno hon))
            refine mixD_forced HC5.out ?_
            clear hu1 hs1 hC5 hoc hoc5 hno hon
            go_wp2_with fail
            show mixD _ _ _ _ _ _ _
            clear hU1 hnh
            refine mixD_forced HU1.out.2.1 ?_
            have hgU : g2 ≤ U1.heap.size := Nat.le_trans (Nat.le_trans HI.out.2.2.1 H5.out.1.size) HU1.out.1.size
            have hgV : g2 ≤ V5.drew.heap.size := Nat.le_trans HI.out.2.2.1 H5.out.1.size
            go_wp2_with (at_builtin; refine wpList_app rfl _ _ 32 rfl g2 40 (.agg #[.int .i64 0, .string ⟨#[]⟩, .string ⟨#[]⟩]) 3 40 Tryz.underlying32 infoChg rfl (by decide) _ _ _ rfl HU1.out.2.2.1 hd 1 #[.int .i64 4, .string p, .string r] 40 rfl S1.out rfl (by intro u hu; simp at hu; rcases hu with rfl | rfl | rfl <;> rfl) (by omega) (by decide) hgU _ rfl ?_; intro g cap X hown hgr hbk hgl)
            show mixD _ _ _ _ _ _ _
            have hCX := HU1.out.2.1.app HU1.out.2.2.1 HO5.out.2.2 hgr
            refine mixD_forced hCX ?_
            have c5 := hCX.1.cell 0
            have f5 := hCX.1.frozen 0
            simp only [List.getElem?_toArray, List.getElem?_cons_zero] at c5
            have hA := app_body HC5.out.1 HO5.out.1 HU1.out.1 hgr hown hgV (by omega) (by decide)
            obtain ⟨V6, hV6⟩ : ∃ V6, X.setCell ⟨g2 + 1 + 1, 0, none⟩ (.slice (some ⟨g, 0, none⟩) (no + 1) cap) = V6 := ⟨_, rfl⟩
            rw [hV6] at hA
            have HA := Lib.hid hA
            clear hown hgr hbk hgl hCX hA
            go_wp2_with fail
            show mixD _ _ _ _ _ _ _
            try rw [hV6]
            clear c5 f5 hV6
            refine mixD_nil ?_
            have h13 := HC5.out.ab HA.out
            have HC13 := Lib.hid (show C13 g2 kb ((eachP xs ys).length + pre.length) pa pb pc pd pe f V6.drew from ⟨h13.1.drew, h13.2.1.drew, h13.2.2.1.drew⟩)
            have HQ4 := Lib.hid h13.2.2.2
            clear h13
            gi_wp2
            have q0 : ∀ m : Held (C13 g2 kb ((eachP xs ys).length + pre.length) pa pb pc pd pe f), (HeldW m).cell? ⟨kb, 0, none⟩ = some (.int .i64 pa) := fun m => by have := (HeldW_spec m).2.1.cell 0; simpa using this
            have q1 : ∀ m : Held (C13 g2 kb ((eachP xs ys).length + pre.length) pa pb pc pd pe f), (HeldW m).cell? ⟨kb, 1, none⟩ = some (.int .i64 pb) := fun m => by have := (HeldW_spec m).2.1.cell 1; simpa using this
            have q2 : ∀ m : Held (C13 g2 kb ((eachP xs ys).length + pre.length) pa pb pc pd pe f), (HeldW m).cell? ⟨kb, 2, none⟩ = some (.int .u32 pc) := fun m => by have := (HeldW_spec m).2.1.cell 2; simpa using this
            have q3 : ∀ m : Held (C13 g2 kb ((eachP xs ys).length + pre.length) pa pb pc pd pe f), (HeldW m).cell? ⟨kb, 3, none⟩ = some (.int .i64 pd) := fun m => by have := (HeldW_spec m).2.1.cell 3; simpa using this
            have q4 : ∀ m : Held (C13 g2 kb ((eachP xs ys).length + pre.length) pa pb pc pd pe f), (HeldW m).cell? ⟨kb, 4, none⟩ = some (.int .u32 pe) := fun m => by have := (HeldW_spec m).2.1.cell 4; simpa using this
            have q5 : ∀ m : Held (C13 g2 kb ((eachP xs ys).length + pre.length) pa pb pc pd pe f), (HeldW m).cell? ⟨g2 + 1 + 1 + 1 + 1, 0, none⟩ = some (.map (some (g2 + 1 + 1 + 1))) := fun m => by have := (HeldW_spec m).1.cell 0; simpa using this
            have q9 : ∀ m : Held (C13 g2 kb ((eachP xs ys).length + pre.length) pa pb pc pd pe f), (Instr.lookup 80 (.map (some (g2 + 1 + 1 + 1))) (.agg #[.int .i64 pa, .int .i64 pb, .int .u32 pc, .int .i64 pd, .int .u32 pe]) false).run Tryz.prog (HeldW m) = .ok (.slice (some ⟨gq, oq, none⟩) (t.length + 1) cq) (HeldW m) := fun m => by
              have := (HeldW_spec m).2.2.look keyPr Tryz.underlying80 (zeroSlS _) (x := ⟨pa, pb, pc, pd, pe⟩) HI.out.2.2.2.1
              rw [HU.out] at this
              exact this
            refine wpIn_region_mixD (C13 g2 kb ((eachP xs ys).length + pre.length) pa pb pc pd pe f) [(0, true), (1, true), (2, true), (3, true), (4, true), (5, true), (6, false)] (by kernel_rfl) (by kernel_rfl) ?_
            simp only [pickP, List.filterMap_cons, List.filterMap_nil, List.getElem?_toArray, List.getElem?_cons_succ, List.getElem?_cons_zero, Option.map_some]
            repeat (apply mixD_first; apply Exists.intro; refine ⟨fun m => ?_, HC13.out, ?_⟩; · (go_big_quiet_step (fail); exact wpQuiet_nil rfl))
            clear q0 q1 q2 q3 q4 q5 q9
            refine mixD_forced HC13.out ?_
            go_wp2_with (at_mapUpdate; refine wpList_storeV rfl _ _ _ 80 rfl 71 keyPr Tryz.underlying80 (g2 + 1 + 1 + 1) _ _ rfl HC13.out.2.2 (by unfold maxLen; omega) ⟨pa, pb, pc, pd, pe⟩ rfl HI.out.2.2.2.1 _ rfl ?_; intro Y hY hgY)
            show mixD _ _ _ _ _ _ _
            refine mixD_nil ?_
            have hms : mStep ys (pre.foldl (mStep ys) (goneQ xs (eachP xs ys), [])) (1, p) = (fun k' => if k' = ⟨pa, pb, pc, pd, pe⟩ then t else (pre.foldl (mStep ys) (goneQ xs (eachP xs ys), [])).1 k', (pre.foldl (mStep ys) (goneQ xs (eachP xs ys), [])).2 ++ [(p, r)]) := by
              rw [HMS.out.1]
              unfold qStep
              simp only [HMS.out.2, HL.out]
            have hfin := G2.add HI.out.1 hmb2 hDm H5.out.1.drew (by omega) (c := (1, p)) HI.out.2.2.2.1 (r := r) (t := t) HMV.out.1.drew (fun k hk => (HMV.out.2 k hk).kept (fun g cur hB => rfl)) (by
                have hA := HA.out.drewD
                have e1 : (mvO (pre.foldl (mStep ys) (goneQ xs (eachP xs ys), [])).2 ++ [((4 : Int), ((1 : Int), p).2, r)]).length = no + 1 := by rw [List.length_append, HO5.out.2.1]; rfl
                rw [e1, List.flatMap_append]
                simpa [eCC] using hA) hY hgY (u2 := .slice (some T) t.length (cq - 1)) (hT2.kept (fun g cur hg hB => by
                  have e1 : T.block = g := by simpa [Value.ownBlock] using hg
                  rw [← e1, hTb]
                  exact HQ4.out)) hms
            have HF := Lib.hid hfin
            clear hY hgY hms hfin
            gi_wp2
            exact HF.out
      · have t0 : (kk != 1) = true := by simpa using hk1
        gi_wp2
        exact HI.out.1.skip HI.out.2.2.1 H4.out.1 (by unfold mStep; rw [if_neg (fun h => hk1 h.1)])
    case done2 =>
      rintro D2 zs V hD2 hzs hI hK2
      have hz : zs = eachP xs ys := hzs
      subst hz
      obtain ⟨o, hrc, ho⟩ := hI.rc
      rw [moves_code] at ho
      have hBV : g2 ≤ V.heap.size := by obtain ⟨f, hf, _⟩ := hI.q; have := hf.lt; omega
      have hsv : SlV V 3 eCC o (mvO (movesP xs ys)) := SlV.of_own ho eCC_len (by decide)
      obtain ⟨A3, c3, rfl, _, _, _⟩ := hsv
      have m1 := hrc.cell 0
      have f1 := hrc.frozen 0
      simp only [List.getElem?_toArray, List.getElem?_cons_zero] at m1 f1
      obtain ⟨X, hX⟩ : ∃ X, V.setCell ⟨g2 + 1 + 1, 0, none⟩ (.slice A3 (mvO (movesP xs ys)).length c3) = X := ⟨_, rfl⟩
      have hgX : V.grownBy X (some (g2 + 1 + 1)) := by rw [← hX]; exact grown_put (grown_refl V (some (g2 + 1 + 1))) 0 _
      have hXr : Blk X (g2 + 1 + 1) 32 #[.slice A3 (mvO (movesP xs ys)).length c3] := by rw [← hX]; exact hrc.put 0 _
      have hXo : OwnC X g2 (.slice A3 (mvO (movesP xs ys)).length c3) (mvO (movesP xs ys)) := World.ownsRow.kept ho hgX (.inr (own_ne_blk ho hrc (by decide)))
      have hXb : Below g2 w X := hI.low.trans ((Below.refl g2 V).grown hgX hBV (fun k hk => by cases hk; omega))
      have hne : ∀ j ds, V.heap[j]? = some (Obj.deferred ds) → X.heap[j]? = some (Obj.deferred ds) := fun j ds h => (hgX.block j (Array.getElem?_eq_some_iff.1 h).1 (fun e => by
        have e' : j = g2 + 1 + 1 := by simpa using e
        subst e'
        unfold Blk at hrc
        rw [hrc] at h
        cases h)).trans h
      have hXK := hne _ _ hK2
      have hXD := hne _ _ hI.dfr
      have HR := Lib.hid (And.intro hXr (And.intro hXo hXb))
      have hD2' : w.heap.size ≤ D2 := by rw [HG.out]; omega
      have hDD : D ≠ D2 := by omega
      generalize hlen : (mvO (movesP xs ys)).length = nl at *
      clear hI hrc ho hgX hXr hXo hXb hne hK2 hzs
      gi_wp2
      refine ⟨by simp, .inl ⟨_, _, rfl, run_takeDeferred hXK, ?_⟩⟩
      have hXD2 : (X.putObj D2 (.deferred none)).heap[D]? = some (Obj.deferred (some [])) := (World.putObj_heap_other hDD).trans hXD
      refine ⟨by simp, .inl ⟨_, _, rfl, run_takeDeferred hXD2, ?_⟩⟩
      have w1 : ∀ r, some D2 = some r → ∃ o : Obj, X.heap[r]? = some o ∧ o.isCells = false := fun r e => by cases e; exact ⟨_, hXK, rfl⟩
      have w2 : ∀ r, some D = some r → ∃ o : Obj, (X.putObj D2 (.deferred none)).heap[r]? = some o ∧ o.isCells = false := fun r e => by cases e; exact ⟨_, hXD2, rfl⟩
      have g1' := grownBy_putObj' X D2 (.deferred none)
      have g2' := grownBy_putObj' (X.putObj D2 (.deferred none)) D (.deferred none)
      refine ⟨_, res_cell_sl rfl _ _ (g2 + 1 + 1) _ _ rfl (blk_ownF (blk_ownF HR.out.1 g1' w1) g2' w2) Tryz.underlying32, ⟨_, rfl, ?_, ?_⟩⟩
      · have := own_ownF (own_ownF HR.out.2.1 g1' w1) g2' w2
        exact this
      · exact (HR.out.2.2.trans (belowK_b (w := w) (by rw [HG.out]; exact Nat.le_refl _) X D2 _ (.deferred none) hD2' hXK rfl rfl)).trans (belowK_b (w := w) (by rw [HG.out]; exact Nat.le_refl _) _ D _ (.deferred none) H2.out.2.2 hXD2 rfl rfl)
    case stop2 =>
      rintro D c pre V hD hSp h
      exact h.elim
  case stop =>
    rintro D c pre V hD hSp h
    exact h.elim
end Go.Proofs.YtihiakkeloejlaaGreatDoor
