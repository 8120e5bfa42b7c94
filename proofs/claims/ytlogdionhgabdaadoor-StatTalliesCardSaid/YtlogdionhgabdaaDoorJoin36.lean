/- Several texts, joined for the limit of sixty files; each one opens with its own comment. -/
import Derived.Test.YtlogdionhgabdaaDoorJoin32
import Derived.Test.YtlogdionhgabdaaDoorJoin34
import Derived.Test.YtlogdionhgabdaaDoorJoin35
import Derived.Test.YtlogdionhgabdaaDoorJoin19
import Derived.ArgAppend
import Derived.BigQuiet
/- Contract of the reference of stat: Top. -/
set_option linter.unusedVariables false
set_option linter.unusedSimpArgs false
namespace Sw
open Go
theorem zip_take {α : Type} (l : List α) (i : Nat) (h : i < l.length) : l.zipIdx.take (i + 1) = l.zipIdx.take i ++ [(l[i], i)] := by
  have h1 : i < l.zipIdx.length := by simpa using h
  rw [List.take_succ_eq_append_getElem h1]
  simp
theorem zip_place {α : Type} (l : List α) (i : Nat) (p : α × Nat) (h : p ∈ l.zipIdx.take i) : p.2 < i := by
  obtain ⟨j, hj, rfl⟩ := List.getElem_of_mem h
  rw [List.length_take] at hj
  rw [List.getElem_take]
  simp
  omega
open Go.RowKit in
/-- 'append(l[:k:k], x)': no room: a new row -/
theorem wpList_app_full {P : Program} {w : World} {ops : Array Oper} {rest : List Oper} {o : Oper} {a : Act} {Q : Exit → Act → World → Prop} (hgd : o.guard = none) (s x : Operand) (t : TypeId)
    (ho : o.op = .call { callee := .builtin .append, args := #[s, x], argTypes := #[t, t] })
    (e : TypeId) (z : Value) (size bytes : Nat) (ht : P.underlying t = some (.slice e)) (hi : (P.info? e).map (fun i => (i.zero, i.size, i.bytes)) = some (some z, size, bytes)) (hzs : z.cells.size = size) (hsz : 0 < size)
    (ao : Option Addr) (n : Nat) (olds : List Value) (hs : a.eval s = .slice ao n n) (hnone : ao = none → n = 0) (hlo : olds.length = n * size) (holds : ∀ b, ao = some b → ∀ j u, olds[j]? = some u → w.cell? (b.add j) = some u)
    (B : Nat) (c : Nat) (news : Array Value) (te : TypeId) (hx : a.eval x = .slice (some ⟨B, 0, none⟩) 1 c) (hB : Blk w B te news) (hl : news.size = size) (h1 : ∀ u ∈ news.toList, u.oneCell' = true)
    (hn : n + 1 ≤ 1000000) (hby : bytes ≤ 1000000)
    (h : ∀ v' w', w'.ownsRow w.heap.size e size v' (n + 1) (olds ++ news.toList) → w.grownBy w' none → wpList P ops Q rest (a.put o.dst v') w') :
    wpList P ops Q (o :: rest) a w := by
  obtain ⟨i, hi, hz, hs2, hb⟩ := info_parts hi
  refine wpList_append_grows w hgd s x t ho e i z size bytes ht hi hz hs2 hb hzs hsz ao n n olds hs (fun q => ⟨hnone q, hnone q⟩) hlo holds ⟨B, 0, none⟩ 1 c news.toList hx (by simpa using hl) ?_ h1 (Nat.lt_succ_self _) (by unfold maxLen; omega) ?_ h
  · exact World.news_of_block hB
  · calc (n + 1) * bytes ≤ 1000000 * 1000000 := Nat.mul_le_mul hn hby
      _ ≤ 140737488355328 := by decide
end Sw
namespace Go.Proofs.YtlogdionhgabdaaDoor
open Go Go.RowKit
open Sw
theorem grown_none_below {A B : World} (h : A.grownBy B none) : Below A.heap.size A B := ⟨h.os, h.tape, h.output, h.size, fun k hk => h.block k hk (by simp)⟩
theorem own39_olds {w : World} {base n c g : Nat} {L : List En} (h : w.ownsRow base 29 2 (.slice (some ⟨g, 0, none⟩) n c) n (L.flatMap eCII)) (hn : L.length = n) (k : Nat) (hk : k ≤ n) :
    ((L.take k).flatMap eCII).length = k * 2 ∧ ∀ b, (some (⟨g, 0, none⟩ : Addr)) = some b → ∀ j u, ((L.take k).flatMap eCII)[j]? = some u → w.cell? (b.add j) = some u := by
  subst hn
  have hlen : ((L.take k).flatMap eCII).length = k * 2 := by rw [flat_len eCII_len, List.length_take]; omega
  refine ⟨hlen, ?_⟩
  rintro b hb j u hj
  obtain rfl := Option.some.inj hb
  have hjl := (List.getElem?_eq_some_iff.1 hj).1
  rw [hlen] at hjl
  obtain ⟨g', cap, cur, hA, hbg, hB, hnc, hcm, hcs, htk⟩ := own_form h (by omega)
  obtain rfl : g = g' := by injection hA with e1 e2 e3; exact congrArg Addr.block (Option.some.inj e1)
  rw [flat_take eCII_len, List.getElem?_take, if_pos hjl, ← htk, List.getElem?_take, if_pos (by omega)] at hj
  rw [add_mk, hB.cell, Nat.zero_add, ← Array.getElem?_toList, hj]
theorem own39_cell {w : World} {base n c : Nat} {A : Option Addr} {L : List En} (h : w.ownsRow base 29 2 (.slice A n c) n (L.flatMap eCII)) (hn : L.length = n) (i : Nat) (hi : i < L.length) :
    ∃ g, A = some ⟨g, 0, none⟩ ∧ g < w.heap.size ∧ w.cell? ⟨g, i * 2, none⟩ = some (.int .i64 L[i].1) ∧ w.cell? ⟨g, i * 2 + 1, none⟩ = some (.int .i64 L[i].2) := by
  subst hn
  obtain ⟨g, cap, cur, hA, hbg, hB, hnc, hcm, hcs, htk⟩ := own_form h (by omega)
  obtain ⟨rfl, rfl⟩ : A = some ⟨g, 0, none⟩ ∧ c = cap := by injection hA with e1 e2 e3; exact ⟨e1, e3⟩
  have h2 : ∀ q, q < 2 → w.cell? ⟨g, i * 2 + q, none⟩ = (eCII L[i])[q]? := fun q hq => by
    have h1 := flat_get eCII_len L i hi q hq
    have h2 : i * 2 + q < L.length * 2 := by omega
    rw [hB.cell, ← Array.getElem?_toList, ← h1, ← htk, List.getElem?_take, if_pos h2]
  exact ⟨g, rfl, hB.lt, by simpa [eCII] using h2 0 (by omega), by simpa [eCII] using h2 1 (by omega)⟩
theorem own_empty (w : World) (base : Nat) (e : TypeId) (size : Nat) (hb : base ≤ w.heap.size) : (w.alloc (.cells #[] e)).ownsRow base e size (.slice (some ⟨w.heap.size, 0, none⟩) 0 0) 0 [] :=
  own_mk hb (Blk.new w e #[]) (Nat.le_refl _) (by simp [maxLen]) (by simp) (by simp)
/-- what lies behind a place of a row of one's own -/
theorem own39_drop {w : World} {base n c g : Nat} {L : List En} (h : w.ownsRow base 29 2 (.slice (some ⟨g, 0, none⟩) n c) n (L.flatMap eCII)) (hn : L.length = n) (j : Nat) (hj : j ≤ n) (T : Addr) (hT : j < c → T = ⟨g, 0 + j * 2, none⟩) :
    SlV w 2 eCII (.slice (some T) (n - j) (c - j)) (L.drop j) := by
  subst hn
  exact ((Lies.of_own h eCII_len (by decide)).drop eCII_len j hj T hT).slv eCII_len
theorem eCII_one' (y : En) : ∀ u ∈ eCII y, u.oneCell' = true := eCII_one y
theorem top_perm {l : List En} {M : List (En × Nat)} {x : En} {i j : Nat} (hst : l.zipIdx.take (i + 1) = l.zipIdx.take i ++ [(x, i)]) (hP : M.Perm (l.zipIdx.take i)) : (M.take j ++ (x, i) :: M.drop j).Perm (l.zipIdx.take (i + 1)) := by
  rw [hst]
  refine (put_perm M (x, i) j).trans ?_
  exact ((List.Perm.cons _ hP).trans (List.perm_append_singleton _ _).symm)
theorem top_flat {M : List (En × Nat)} {x : En} {i j : Nat} : ((M.take j ++ (x, i) :: M.drop j).map Prod.fst).flatMap eCII = ((M.map Prod.fst).take j).flatMap eCII ++ [.int .i64 x.1, .int .i64 x.2] ++ ((M.map Prod.fst).drop j).flatMap eCII := by
  simp [eCII, List.map_take, List.map_drop]
/-- the element's box is known -/
def RfC (N : Nat) (x : En) (W : World) : Prop := Blk W N 29 #[.int .i64 x.1, .int .i64 x.2]
/-- the greater count first -/
abbrev cmpN (x y : En) : Int := ordI y.2 x.2
set_option maxRecDepth 100000 in
set_option maxHeartbeats 8000000 in
theorem ref39Top_any (w : World) (u : Value) (l : List En) (k : Int) (h : SlV w 2 eCII u l) (hl : l.length ≤ 1000) :
    Calls Tryd.prog 10 #[u, .int .i64 k] w fun e w' => ∃ (r : Value) (M : List (En × Nat)), e = .returned r ∧ M.Perm l.zipIdx ∧ UpS cmpN M ∧ SlV w' 2 eCII r ((M.map Prod.fst).take (max 0 (min k M.length)).toNat) ∧ Below w.heap.size w w' := by
  obtain ⟨A, c, rfl, hc1, hc2, hsl⟩ := h
  obtain ⟨n, hn⟩ : ∃ n, l.length = n := ⟨_, rfl⟩
  rw [hn] at hc1 hl ⊢
  unfold maxLen at hc2
  have HL := Lib.hid hn; clear hn
  have HS := Lib.hid hsl; clear hsl
  go_enter Tryd.func10, Tryd.ntmps10
  go_wp2_with fail
  go_loopw [5, 12] (fun o iv wr => ∃ (i : Nat) (M : List (En × Nat)), i ≤ n ∧ iv = .int .i64 i ∧ M.Perm (l.zipIdx.take i) ∧ UpS cmpN M ∧ Own39 wr w.heap.size o (M.map Prod.fst) ∧ Below w.heap.size w wr ∧ (i = 0 → o = .slice none 0 0)) (fun _ iv _ => n - (intOf iv).toNat)
  case atStart => exact ⟨0, [], Nat.zero_le _, rfl, List.Perm.refl _, List.Pairwise.nil, World.ownsRow_nil _ _ _ _, Below.refl _ _, fun _ => rfl⟩
  case round =>
    obtain ⟨i, M, hi, rfl, hP, hU, ho, hb, hnil⟩ := hrel
    have HNI := Lib.hid hnil; clear hnil
    have hbs := hb.size
    have hml : M.length = i := by rw [hP.length_eq, List.length_take, List.length_zipIdx, HL.out]; omega
    by_cases hlt : i < n
    · have hiL : i < l.length := by have := HL.out; omega
      obtain ⟨b, off, rfl, hbb, hcs⟩ := (HS.out.below hb (Nat.le_refl _)) (by omega)
      have c0 := hcs i hiL 0 (by omega)
      have c1 := hcs i hiL 1 (by omega)
      simp only [eCII, List.getElem?_cons_succ, List.getElem?_cons_zero, Nat.add_zero] at c0 c1
      clear hcs
      have hi1 : (i : Int) < n := by omega
      have hpl : ∀ p ∈ M, p.2 < i := fun p hp => zip_place l i p (hP.mem_iff.1 hp)
      have hst := zip_take l i hiL
      obtain ⟨x, hx⟩ : ∃ x, l[i] = x := ⟨_, rfl⟩
      simp only [hx] at c0 c1 hst
      clear hx
      obtain ⟨A3, c3, rfl, hic, -, -⟩ := SlV_of_any ho
      unfold Own39 at ho
      rw [List.length_map, hml] at hic
      have HIC := Lib.hid hic; clear hic
      have hLm : (M.map Prod.fst).length = i := by rw [List.length_map, hml]
      by_cases hi0 : i = 0
      · subst hi0
        obtain rfl : M = [] := List.length_eq_zero_iff.1 hml
        have hni := HNI.out rfl
        obtain ⟨rfl, rfl⟩ : A3 = none ∧ c3 = 0 := by injection hni with e1 e2 e3; exact ⟨e1, e3⟩
        have hba : Below wr.heap.size wr (wr.alloc (.cells #[.int .i64 x.1, .int .i64 x.2] 29)) := (Below.refl _ _).alloc (Nat.le_refl _) _
        have HW := Lib.hid (And.intro (hb.trans (hba.mono hbs)) (Blk.new wr 29 #[.int .i64 x.1, .int .i64 x.2]))
        have HST := Lib.hid hst
        clear hst hP hU hpl ho hb hba hml hLm hni HNI HIC
        simp only [List.map_nil, List.length_nil] at *
        simp only [Nat.zero_mul, Nat.add_zero, Nat.zero_add] at c0 c1
        go_wp2_with fail
        obtain ⟨W, hW⟩ : ∃ W, wr.alloc (.cells #[.int .i64 x.1, .int .i64 x.2] 29) = W := ⟨_, rfl⟩
        obtain ⟨N, hN⟩ : ∃ N, wr.heap.size = N := ⟨_, rfl⟩
        rw [hW, hN] at HW
        rw [hW, hN]
        clear hW hN hbs c0 c1
        go_loopw [8] (fun kv wq => ∃ d : Nat, kv = .int .i64 0 ∧ wq = W.drewN d) (fun kv _ => (intOf kv).toNat)
        case atStart => exact ⟨0, rfl, rfl⟩
        case round =>
          obtain ⟨d, rfl, rfl⟩ := hrel
          go_wp2_with fail
          go_quiet (fail)
          obtain ⟨W1, hW1⟩ : ∃ W1, (W.drewN d).drewN nq = W1 := ⟨_, rfl⟩
          rw [hW1]
          have hd1 : Below W.heap.size W W1 := by rw [← hW1]; exact below_drewN (below_drewN (Below.refl _ _) _) _
          have H1 := Lib.hid (And.intro (HW.out.1.trans (hd1.mono HW.out.1.size)) (HW.out.2.below hd1 HW.out.2.lt))
          clear hd1 hW1
          have hbs1 : w.heap.size ≤ W1.heap.size := H1.out.1.size
          go_wp2_with (at_builtin; refine wpList_app_slv rfl _ _ 22 rfl w.heap.size 29 (.agg #[.int .i64 0, .int .i64 0]) 2 16 Tryd.underlying22 infoE39 rfl (by decide) _ 0 _ rfl (own_empty W1 w.heap.size _ 2 hbs1) eCII eCII_len eCII_one' _ [] rfl ⟨none, 0, rfl, Nat.le_refl _, by simp [maxLen], SlOf.nil _ _ _ _⟩ (by simp) (by decide) (by simp; omega) ?_; intro v2 w2 ho2 hg2; obtain ⟨A2, c2, rfl, -, -, -⟩ := SlV_of_any ho2)
          have hz1 : W1.heap.size < w2.heap.size := by have := hg2.size; simp at this; omega
          have hb2 : Below W1.heap.size W1 w2 := ((Below.refl _ W1).alloc (Nat.le_refl _) _).grown hg2 (by simp) (fun q hq => by cases hq; exact Nat.le_refl _)
          have H2 := Lib.hid (And.intro (H1.out.1.trans (hb2.mono H1.out.1.size)) (And.intro (H1.out.2.below hb2 H1.out.2.lt) ho2))
          clear hb2 hg2 ho2 H1 hbs1
          go_upto_region 9 with fail
          have HC2 := Lib.hid (show RfC N x w2.drew from H2.out.2.1.drew)
          have k0 : ∀ m : Held (RfC N x), (HeldW m).cell? ⟨N, 0, none⟩ = some (.int .i64 x.1) := fun m => by have := Blk.cell (HeldW_spec m : Blk _ _ _ _) 0; simpa using this
          have k1 : ∀ m : Held (RfC N x), (HeldW m).cell? ⟨N, 1, none⟩ = some (.int .i64 x.2) := fun m => by have := Blk.cell (HeldW_spec m : Blk _ _ _ _) 1; simpa using this
          refine wp_region_mix (RfC N x) [(0, true), (1, true), (2, true), (3, true), (4, true), (7, true), (5, false), (6, false), (8, false), (9, true)] (by kernel_rfl) (by kernel_rfl) ?_
          simp only [pickP, List.filterMap_cons, List.filterMap_nil, List.getElem?_toArray, List.getElem?_cons_succ, List.getElem?_cons_zero, Option.map_some]
          repeat (apply mix_first; apply Exists.intro; refine ⟨fun m => ?_, HC2.out, ?_⟩; · (go_big_quiet_step (fail); exact wpQuiet_nil rfl))
          refine mix_forced HC2.out ?_
          obtain ⟨w3, hw3⟩ : ∃ w3, w2.drew = w3 := ⟨_, rfl⟩
          rw [hw3] at HC2 ⊢
          have H3 := Lib.hid (And.intro H2.out.1.drew (And.intro H2.out.2.1.drew (own_drew H2.out.2.2)))
          rw [hw3] at H3
          clear hw3 H2
          go_wp2_with fail
          show mixC _ _ _ _ _ _ _
          have HC4 := Lib.hid (show RfC N x (w3.alloc (.cells #[.int .i64 x.1, .int .i64 x.2] 29)) from HC2.out.alloc _)
          refine mix_forced HC4.out ?_
          have hba3 := (Below.refl _ w3).alloc (Nat.le_refl _) (.cells #[.int .i64 x.1, .int .i64 x.2] 29)
          have HBA := Lib.hid hba3; clear hba3
          refine wpList_app_full rfl _ _ 22 rfl 29 (.agg #[.int .i64 0, .int .i64 0]) 2 16 Tryd.underlying22 infoE39 rfl (by decide) none 0 [] rfl (fun _ => rfl) rfl (fun b h => by cases h) w3.heap.size 1 #[.int .i64 x.1, .int .i64 x.2] 29 rfl (Blk.new _ _ _) rfl (by simp [Value.oneCell']) (by omega) (by decide) ?_
          intro v4 w4 ho4 hg4
          have hb4 : Below w3.heap.size w3 w4 := (HBA.out.trans ((grown_none_below hg4).mono HBA.out.size))
          have HC5 := Lib.hid (show RfC N x w4 from Blk.below H3.out.2.1 hb4 H3.out.2.1.lt)
          have hsl4 : SlV w4 2 eCII (.slice A2 0 c2) [] := by
            have := own_kept H3.out.2.2 hb4
            exact SlV.of_own (l := []) this eCII_len (by decide)
          have HS4 := Lib.hid hsl4; clear hsl4
          have hsw : (w3.alloc (.cells #[.int .i64 x.1, .int .i64 x.2] 29)).heap.size = w3.heap.size + 1 := by simp
          rw [hsw] at ho4
          have H4 := Lib.hid (And.intro ho4 (H3.out.1.trans (hb4.mono H3.out.1.size)))
          have hs4 : w3.heap.size + 1 ≤ w4.heap.size := by have := hg4.size; simpa using this
          have hs3 : w.heap.size ≤ w3.heap.size := H3.out.1.size
          clear ho4 hg4 hb4 H3 hsw
          obtain ⟨A4, c4, rfl, -, -, -⟩ := SlV_of_any H4.out.1
          go_wp2_with fail
          show mixC _ _ _ _ _ _ _
          refine mix_forced HC5.out ?_
          refine wpList_app_slv rfl _ _ 22 rfl (w3.heap.size + 1) 29 (.agg #[.int .i64 0, .int .i64 0]) 2 16 Tryd.underlying22 infoE39 rfl (by decide) (.slice A4 (0 + 1) c4) (0 + 1) _ rfl H4.out.1 eCII eCII_len eCII_one' _ [] rfl HS4.out (by simp) (by decide) hs4 ?_
          intro v5 w5 ho5 hg5
          have hb5 : Below (w3.heap.size + 1) w4 w5 := (Below.refl _ w4).grown hg5 hs4 (fun q hq => (H4.out.1.lt q hq).1)
          obtain ⟨A5, c5, rfl, -, -, -⟩ := SlV_of_any ho5
          have HF := Lib.hid (And.intro (own_wide ho5 (Nat.le_succ_of_le hs3) : w5.ownsRow w.heap.size _ _ _ _ _) (H4.out.2.trans (hb5.mono (Nat.le_succ_of_le hs3))))
          have HC6 := Lib.hid (show RfC N x w5 from Blk.below HC5.out hb5 (Nat.lt_of_lt_of_le (Blk.lt HC2.out) (Nat.le_succ _)))
          clear ho5 hg5 hb5 H4 HS4
          go_wp2_with fail
          show mixC _ _ _ _ _ _ _
          repeat (apply mix_first; apply Exists.intro; refine ⟨fun m => ?_, HC6.out, ?_⟩; · (go_big_quiet_step (fail); exact wpQuiet_nil rfl))
          refine mix_nil HC6.out ?_
          clear k0 k1 HC2 HC4 HC5 HC6
          go_wp2_with fail
          go_roundw
          case rel => exact ⟨1, [(x, 0)], by omega, by go_num, by rw [HST.out]; simp, List.pairwise_singleton _ _, by have := HF.out.1; unfold Own39; simpa [eCII] using this, HF.out.2, fun h => by omega⟩
          case measure => simp [intOf]; omega
      obtain ⟨g, rfl, hgl⟩ : ∃ g, A3 = some ⟨g, 0, none⟩ ∧ g < wr.heap.size := by
        have ho' := ho
        rw [hLm] at ho'
        obtain ⟨g, hg, h2, _⟩ := own39_cell ho' hLm 0 (by omega)
        exact ⟨g, hg, h2⟩
      rw [hLm] at ho
      rw [hLm]
      have hba : Below wr.heap.size wr (wr.alloc (.cells #[.int .i64 x.1, .int .i64 x.2] 29)) := (Below.refl _ _).alloc (Nat.le_refl _) _
      have HH := Lib.hid (And.intro hst (And.intro hP (And.intro hU (And.intro hpl hml))))
      have HW := Lib.hid (And.intro (own_kept ho hba) (And.intro (hb.trans (hba.mono hbs)) (Blk.new wr 29 #[.int .i64 x.1, .int .i64 x.2])))
      clear hst hP hU hpl ho hb hba hml hLm
      go_wp2_with fail
      obtain ⟨W, hW⟩ : ∃ W, wr.alloc (.cells #[.int .i64 x.1, .int .i64 x.2] 29) = W := ⟨_, rfl⟩
      obtain ⟨N, hN⟩ : ∃ N, wr.heap.size = N := ⟨_, rfl⟩
      rw [hW, hN] at HW
      rw [hW, hN]
      clear hW hN hbs c0 c1
      go_loopw [8] (fun kv wq => ∃ j d : Nat, j ≤ i ∧ kv = .int .i64 j ∧ (∀ q (hq : q < M.length), j ≤ q → M[q].1.2 < x.2) ∧ wq = W.drewN d) (fun kv _ => (intOf kv).toNat)
      case atStart => exact ⟨i, 0, Nat.le_refl _, rfl, fun q hq h => by have := HH.out.2.2.2.2; omega, rfl⟩
      case round =>
        obtain ⟨j, d, hj, rfl, hall, rfl⟩ := hrel
        have HA := Lib.hid hall; clear hall
        have n0 : W.cell? ⟨N, 0, none⟩ = some (.int .i64 x.1) := by have := HW.out.2.2.cell 0; simpa using this
        have n1 : W.cell? ⟨N, 1, none⟩ = some (.int .i64 x.2) := by have := HW.out.2.2.cell 1; simpa using this
        go_upto_region 6 with fail
        go_cut [30] from 18 to 32 (fun v wx => ∃ (bb : Bool) (d2 : Nat), v = .bool bb ∧ (bb = true → 0 < j ∧ ∀ y, M[j - 1]? = some y → y.1.2 < x.2) ∧ (bb = false → ∀ y : En × Nat, 0 < j → M[j - 1]? = some y → ¬ y.1.2 < x.2) ∧ wx = W.drewN d2)
        case first =>
          by_cases h0 : 0 < j
          · have hjl : j - 1 < (M.map Prod.fst).length := by rw [List.length_map, HH.out.2.2.2.2]; omega
            obtain ⟨g', hg', hgl', d0, d1⟩ := own39_cell HW.out.1 (by rw [List.length_map]; exact HH.out.2.2.2.2) (j - 1) hjl
            obtain rfl : g = g' := congrArg Addr.block (Option.some.inj hg')
            have hjm : j - 1 < M.length := by simpa using hjl
            have hz : (M.map Prod.fst)[j - 1] = M[j - 1].1 := by simp
            rw [hz] at d1
            obtain ⟨z, hzz⟩ : ∃ z, M[j - 1].1.2 = z := ⟨_, rfl⟩
            rw [hzz] at d1
            have HZ := Lib.hid (fun (y : En × Nat) (hy : M[j - 1]? = some y) => (by
              rw [List.getElem?_eq_getElem hjm] at hy
              obtain rfl := Option.some.inj hy
              exact hzz : y.1.2 = z))
            have wj : IntKind.i64.wrap ((j : Int) - 1) = ((j - 1 : Nat) : Int) := by rw [IntWalk.i64_in _ (by omega)]; omega
            have q2 : ((j - 1 : Nat) : Int) < i := by omega
            have q0 : (0 : Int) < j := by omega
            clear hjl hz hzz d0 hg'
            by_cases hzx : z < x.2
            · have HX := Lib.hid hzx
              go_wp2_with fail
              go_quiet (fail)
              go_wp2_with fail
              go_meet
              refine ⟨true, d + nq, by first | rfl | (congr 1; simpa using HX.out), fun _ => ⟨h0, fun y hy => by rw [HZ.out y hy]; exact HX.out⟩, (fun h => Bool.noConfusion h), World.drewN_drewN _ _ _⟩
            · have HX := Lib.hid hzx
              go_wp2_with fail
              go_quiet (fail)
              go_wp2_with fail
              go_meet
              refine ⟨false, d + nq, by first | rfl | (congr 1; simpa using HX.out), (fun h => Bool.noConfusion h), fun _ y _ hy => by rw [HZ.out y hy]; exact HX.out, World.drewN_drewN _ _ _⟩
          · obtain rfl : j = 0 := by omega
            go_wp2_with fail
            go_quiet (fail)
            go_wp2_with fail
            go_meet
            exact ⟨false, d + nq, rfl, (fun h => Bool.noConfusion h), fun _ y h => absurd h (by omega), World.drewN_drewN _ _ _⟩
        case rest =>
        obtain ⟨bb, d2, rfl, hbt, hbf, rfl⟩ := hcut
        have HBT := Lib.hid hbt; clear hbt
        have HBF := Lib.hid hbf; clear hbf
        cases bb with
        | true =>
          obtain ⟨h0, hy0⟩ := HBT.out rfl
          have HY := Lib.hid hy0; clear hy0
          have wj : IntKind.i64.wrap ((j : Int) - 1) = ((j - 1 : Nat) : Int) := by rw [IntWalk.i64_in _ (by omega)]; omega
          go_wp2_with fail
          go_roundw
          case rel => exact ⟨j - 1, _, by omega, by go_num, fun q hq h => by
            by_cases hq2 : j ≤ q
            · exact HA.out q hq hq2
            · obtain rfl : q = j - 1 := by omega
              exact HY.out _ (List.getElem?_eq_getElem hq), rfl⟩
          case measure => simp [intOf]; omega
        | false =>
          have HE := Lib.hid (fun (y : En × Nat) (h : 0 < j) (hy : M[j - 1]? = some y) => HBF.out rfl y h hy)
          obtain ⟨T, hT, hTa, hTb, _⟩ := slice_from (P := Tryd.prog) 22 29 2 Tryd.underlying22 (by kernel_rfl) Tryd.sizeOf29 g 0 i c3 j (j : Int) rfl hj
          have HT := Lib.hid hTa
          obtain ⟨W1, hW1⟩ : ∃ W1, W.drewN d2 = W1 := ⟨_, rfl⟩
          rw [hW1]
          have hd1 : Below W.heap.size W W1 := by rw [← hW1]; exact below_drewN (Below.refl _ _) _
          have hs1 : W1.heap.size = W.heap.size := by rw [← hW1]; rfl
          have H1 := Lib.hid (And.intro (own_kept HW.out.1 hd1) (And.intro (HW.out.2.1.trans (hd1.mono HW.out.2.1.size)) (HW.out.2.2.below hd1 HW.out.2.2.lt)))
          clear hd1 hs1 hW1 n0 n1
          have hbs1 : w.heap.size ≤ W1.heap.size := H1.out.2.1.size
          have hgl1 : g < W1.heap.size := (H1.out.1.lt g rfl).2
          have hij : 0 + (i - j) ≤ 1000000 := by omega
          have hmm := HH.out.2.2.2.2
          have hSL := fun (o : Obj) => own39_drop (own_kept H1.out.1 ((Below.refl _ W1).alloc (Nat.le_refl _) o)) (by rw [List.length_map]; exact hmm) j hj T HT.out
          have hll : ((M.map Prod.fst).drop j).length = i - j := by rw [List.length_drop, List.length_map, hmm]
          obtain ⟨R, hR⟩ : ∃ R, (M.map Prod.fst).drop j = R := ⟨_, rfl⟩
          rw [hR] at hSL hll
          have HRR := Lib.hid hR; clear hR
          have HSL := Lib.hid hSL
          have HLL := Lib.hid hll
          clear hSL hll hmm
          go_wp2_with (at_builtin; refine wpList_app_slv rfl _ _ 22 rfl w.heap.size 29 (.agg #[.int .i64 0, .int .i64 0]) 2 16 Tryd.underlying22 infoE39 rfl (by decide) _ 0 _ rfl (own_empty W1 w.heap.size _ 2 hbs1) eCII eCII_len eCII_one' _ R rfl (HSL.out _) (by rw [HLL.out]; exact hij) (by decide) (by simp; omega) ?_; intro v2 w2 ho2 hg2; rw [HLL.out, Nat.zero_add] at ho2; obtain ⟨A2, c2, rfl, -, -, -⟩ := SlV_of_any ho2)
          have hz1 : W1.heap.size < w2.heap.size := by have := hg2.size; simp at this; omega
          have hb2 : Below W1.heap.size W1 w2 := ((Below.refl _ W1).alloc (Nat.le_refl _) _).grown hg2 (by simp) (fun q hq => by cases hq; exact Nat.le_refl _)
          have H2 := Lib.hid (And.intro (own_kept H1.out.1 hb2) (And.intro (H1.out.2.1.trans (hb2.mono H1.out.2.1.size)) (And.intro (H1.out.2.2.below hb2 H1.out.2.2.lt) ho2)))
          clear hb2 hg2 ho2 H1 HSL hbs1 hgl1
          go_upto_region 9 with fail
          have hC2 : RfC N x w2.drew := H2.out.2.2.1.drew
          have HC2 := Lib.hid hC2; clear hC2
          have k0 : ∀ m : Held (RfC N x), (HeldW m).cell? ⟨N, 0, none⟩ = some (.int .i64 x.1) := fun m => by have := Blk.cell (HeldW_spec m : Blk _ _ _ _) 0; simpa using this
          have k1 : ∀ m : Held (RfC N x), (HeldW m).cell? ⟨N, 1, none⟩ = some (.int .i64 x.2) := fun m => by have := Blk.cell (HeldW_spec m : Blk _ _ _ _) 1; simpa using this
          have hjc : (j : Int) ≤ c3 := by have := HIC.out; omega
          have hj0 : (0 : Int) ≤ j := by omega
          refine wp_region_mix (RfC N x) [(0, true), (1, true), (2, true), (3, true), (4, true), (7, true), (5, false), (6, false), (8, false), (9, true)] (by kernel_rfl) (by kernel_rfl) ?_
          simp only [pickP, List.filterMap_cons, List.filterMap_nil, List.getElem?_toArray, List.getElem?_cons_succ, List.getElem?_cons_zero, Option.map_some]
          repeat (apply mix_first; apply Exists.intro; refine ⟨fun m => ?_, HC2.out, ?_⟩; · (go_big_quiet_step (fail); exact wpQuiet_nil rfl))
          refine mix_forced HC2.out ?_
          obtain ⟨w3, hw3⟩ : ∃ w3, w2.drew = w3 := ⟨_, rfl⟩
          rw [hw3] at HC2 ⊢
          have H3 := Lib.hid (And.intro (own_drew H2.out.1) (And.intro H2.out.2.1.drew (And.intro H2.out.2.2.1.drew (own_drew H2.out.2.2.2))))
          rw [hw3] at H3
          clear hw3 H2
          go_wp2_with fail
          show mixC _ _ _ _ _ _ _
          have HC4 := Lib.hid (show RfC N x (w3.alloc (.cells #[.int .i64 x.1, .int .i64 x.2] 29)) from HC2.out.alloc _)
          refine mix_forced HC4.out ?_
          have hba3 := (Below.refl _ w3).alloc (Nat.le_refl _) (.cells #[.int .i64 x.1, .int .i64 x.2] 29)
          have hOL := own39_olds (own_kept H3.out.1 hba3) (by rw [List.length_map]; exact HH.out.2.2.2.2) j hj
          have HOL := Lib.hid hOL; clear hOL
          have HBA := Lib.hid hba3; clear hba3
          go_wp2_with (at_builtin; refine wpList_app_full rfl _ _ 22 rfl 29 (.agg #[.int .i64 0, .int .i64 0]) 2 16 Tryd.underlying22 infoE39 rfl (by decide) _ j _ rfl (fun h => by cases h) HOL.out.1 HOL.out.2 w3.heap.size 1 #[.int .i64 x.1, .int .i64 x.2] 29 rfl (Blk.new _ _ _) rfl (by simp [Value.oneCell']) (by omega) (by decide) ?_; intro v4 w4 ho4 hg4)
          show mixC _ _ _ _ _ _ _
          have hb4 : Below w3.heap.size w3 w4 := (HBA.out.trans ((grown_none_below hg4).mono HBA.out.size))
          have HC5 := Lib.hid (show RfC N x w4 from Blk.below H3.out.2.2.1 hb4 H3.out.2.2.1.lt)
          refine mix_forced HC5.out ?_
          have hsl4 : SlV w4 2 eCII (.slice A2 (i - j) c2) R := by
            have := own_kept H3.out.2.2.2 hb4
            rw [List.nil_append] at this
            exact SlV.of_own this eCII_len (by decide)
          have HS4 := Lib.hid hsl4; clear hsl4
          have hsw : (w3.alloc (.cells #[.int .i64 x.1, .int .i64 x.2] 29)).heap.size = w3.heap.size + 1 := by simp
          rw [hsw] at ho4
          have H4 := Lib.hid (And.intro ho4 (H3.out.2.1.trans (hb4.mono H3.out.2.1.size)))
          have hs4 : w3.heap.size + 1 ≤ w4.heap.size := by have := hg4.size; simpa using this
          have hs3 : w.heap.size ≤ w3.heap.size := H3.out.2.1.size
          clear ho4 hg4 hb4 H3 HOL hsw
          obtain ⟨A4, c4, rfl, -, -, -⟩ := SlV_of_any H4.out.1
          refine wpList_app_slv rfl _ _ 22 rfl (w3.heap.size + 1) 29 (.agg #[.int .i64 0, .int .i64 0]) 2 16 Tryd.underlying22 infoE39 rfl (by decide) (.slice A4 (j + 1) c4) (j + 1) _ rfl H4.out.1 eCII eCII_len eCII_one' _ R rfl HS4.out (by rw [HLL.out]; omega) (by decide) hs4 ?_
          intro v5 w5 ho5 hg5
          have hb5 : Below (w3.heap.size + 1) w4 w5 := (Below.refl _ w4).grown hg5 hs4 (fun q hq => (H4.out.1.lt q hq).1)
          obtain ⟨A5, c5, rfl, -, -, -⟩ := SlV_of_any ho5
          have HF := Lib.hid (And.intro (own_wide ho5 (Nat.le_succ_of_le hs3) : w5.ownsRow w.heap.size _ _ _ _ _) (H4.out.2.trans (hb5.mono (Nat.le_succ_of_le hs3))))
          have HC6 := Lib.hid (show RfC N x w5 from Blk.below HC5.out hb5 (Nat.lt_of_lt_of_le (Blk.lt HC2.out) (Nat.le_succ _)))
          clear ho5 hg5 hb5 H4 HS4
          go_wp2_with fail
          show mixC _ _ _ _ _ _ _
          repeat (apply mix_first; apply Exists.intro; refine ⟨fun m => ?_, HC6.out, ?_⟩; · (go_big_quiet_step (fail); exact wpQuiet_nil rfl))
          refine mix_nil HC6.out ?_
          have hfin : Own39 w5 w.heap.size (.slice A5 (j + 1 + R.length) c5) ((M.take j ++ (x, i) :: M.drop j).map Prod.fst) := by
            unfold Own39
            have h1 := HF.out.1
            rw [← HRR.out] at h1
            rw [top_flat, ← HRR.out]
            have h2 : ((M.take j ++ (x, i) :: M.drop j).map Prod.fst).length = j + 1 + ((M.map Prod.fst).drop j).length := by have := HH.out.2.2.2.2; simp; omega
            rw [h2]
            exact h1
          have HFN := Lib.hid hfin; clear hfin
          clear k0 k1 HC2 HC4 HC5 HC6
          go_wp2_with fail
          go_roundw
          case rel => exact ⟨i + 1, M.take j ++ (x, i) :: M.drop j, by omega, by go_num, top_perm HH.out.1 HH.out.2.1, UpS.put statCmp_law HH.out.2.2.1 j (by rw [HH.out.2.2.2.2]; exact hj) (fun y h hy => .inr ⟨by have h2 := HE.out y h hy; rw [ordI_lt]; show ¬ y.1.2 < x.2; omega, HH.out.2.2.2.1 _ (List.mem_of_getElem? hy)⟩) (fun y hy => by
            obtain ⟨hyl, rfl⟩ := List.getElem?_eq_some_iff.1 hy
            exact .inl (by rw [ordI_lt]; exact HA.out j hyl (Nat.le_refl _))), HFN.out, HF.out.2, fun h => by omega⟩
          case measure => simp [intOf]; omega
    · obtain rfl : i = n := by omega
      have hf : l.zipIdx.take i = l.zipIdx := List.take_of_length_le (by rw [List.length_zipIdx, HL.out]; omega)
      rw [hf] at hP
      clear hf
      unfold Own39 at ho
      have hLm : (M.map Prod.fst).length = i := by rw [List.length_map, hml]
      rw [hLm] at ho
      obtain ⟨A3, c3, rfl, hic, -, -⟩ := SlV_of_any ho
      have hsl3 : SlV wr 2 eCII (.slice A3 (max 0 (min k (i : Int))).toNat c3) ((M.map Prod.fst).take (max 0 (min k (i : Int))).toNat) := by
        obtain ⟨A4, c4, hA, hc4, hc5, hso⟩ := SlV.of_own ho eCII_len (by decide)
        obtain ⟨rfl, rfl⟩ : A3 = A4 ∧ c3 = c4 := by injection hA with e1 e2 e3; exact ⟨e1, e3⟩
        exact ⟨A3, c3, by rw [List.length_take, hLm]; congr 1; omega, by rw [List.length_take]; omega, hc5, hso.take _⟩
      have HF := Lib.hid (And.intro hP (And.intro hU (And.intro hsl3 hb)))
      rw [← hml] at HF
      have HML := Lib.hid hml
      obtain ⟨q, hq⟩ : ∃ q, (max 0 (min k (M.length : Int))).toNat = q := ⟨_, rfl⟩
      have hqi : max 0 (min k (i : Int)) = ((q : Nat) : Int) := by omega
      have hq2 : q ≤ c3 := by omega
      have hq3 : (q : Int) ≤ i := by omega
      rw [hq] at HF
      have HQ := Lib.hid hq
      clear hq hP hU hsl3 ho hb hLm hic hml HNI
      go_wp2_with fail
      go_ret
      exact ⟨_, M, rfl, HF.out.1, HF.out.2.1, by rw [HQ.out]; exact HF.out.2.2.1, HF.out.2.2.2⟩
end Go.Proofs.YtlogdionhgabdaaDoor
