/- Several texts, joined for the limit of sixty files; each one opens with its own comment. -/
import Derived.Test.YtlfeeiloijmagaaGreatDoorJoin36
import Derived.Test.YtlfeeiloijmagaaGreatDoorJoin20
import Derived.Test.YtlfeeiloijmagaaGreatDoorJoin31
import Derived.Test.YtlfeeiloijmagaaGreatDoorJoin27
/- The reference's Paths of a Base and two rows of items. -/
set_option linter.unusedVariables false
set_option linter.unusedSimpArgs false
namespace Go.Proofs.YtlfeeiloijmagaaGreatDoor
open Go Go.RowKit
open Sw
/-- the paths so far -/
def PsI (w : World) (o : Value) (S : List ByteArray) (W : World) : Prop := ∃ qs, OwnS W w.heap.size o qs ∧ Rise qs ∧ (∀ q, q ∈ qs ↔ q ∈ S) ∧ qs.length ≤ S.length ∧ (qs = [] → o = .slice none 0 0)
theorem PsI.below {w : World} {o : Value} {S : List ByteArray} {A B : World} (h : PsI w o S A) (hb : Below A.heap.size A B) : PsI w o S B := by
  obtain ⟨qs, h1, h2⟩ := h
  exact ⟨qs, h1.below hb, h2⟩
/-- what Paths answers -/
def PathsAns (w' : World) (B : Nat) (S : List ByteArray) (e : Ending) : Prop := ∃ u, e = .returned u ∧ OwnS w' B u (pathsS S)
theorem PsI.ans {w : World} {o : Value} {S : List ByteArray} {W : World} (h : PsI w o S W) : PathsAns W w.heap.size S (.returned o) := by
  obtain ⟨qs, h1, h2, h3, _⟩ := h
  exact ⟨o, rfl, by rw [pathsS_eq h2 h3]; exact h1⟩
/-- one more path is put -/
theorem psI_put {w : World} {o : Value} {S : List ByteArray} {W : World} (h : PsI w o S W) (hB : w.heap.size ≤ W.heap.size) (hl : S.length ≤ 1000) (p : ByteArray) (hz : ∀ q ∈ S, q.size ≤ 90000) (hp : p.size ≤ 90000) :
    Calls Tryz.prog 39 #[o, .string p] W fun e w' => (∃ u, e = .returned u ∧ PsI w u (S ++ [p]) w') ∧ Below W.heap.size W w' := by
  obtain ⟨qs, h1, h2, h3, h4, h5⟩ := h
  refine (refPutP_any W w.heap.size o qs p h1 hB (by omega) (fun q hq => hz q ((h3 q).1 hq)) hp h5).mono ?_
  rintro e w' ⟨⟨u, rs, rfl, g1, g2⟩, hb⟩
  exact ⟨⟨u, rfl, rs, g1, g2.1 h2, fun q => by rw [g2.2.1 q, h3 q, List.mem_append, List.mem_singleton, Or.comm], by rw [List.length_append]; have := g2.2.2.1; simp only [List.length_singleton]; omega, fun h => by have := g2.2.2.2; rw [h] at this; simp at this⟩, hb⟩
set_option maxRecDepth 100000 in
set_option maxHeartbeats 8000000 in
theorem refPathsP_any (w : World) (u1 u2 : Value) (l1 l2 : List MkE) (h1 : SlV w 6 eCM u1 l1) (h2 : SlV w 6 eCM u2 l2) (hn1 : l1.length ≤ 100) (hn2 : l2.length ≤ 100) (hz1 : ∀ m ∈ l1 ++ l2, m.1.size ≤ 90000)
    (v1 v2 : Value) (xs ys : List NE) (g1 : SlV w 5 eCSN v1 xs) (g2 : SlV w 5 eCSN v2 ys) (hm1 : xs.length ≤ 100) (hm2 : ys.length ≤ 100) (hz2 : ∀ m ∈ xs ++ ys, m.1.size ≤ 90000) :
    Calls Tryz.prog 20 #[.agg #[u1, u2], v1, v2] w fun e w' => PathsAns w' w.heap.size ((l1 ++ l2).map Prod.fst ++ (xs ++ ys).map Prod.fst) e ∧ Below w.heap.size w w' := by
  obtain ⟨W, hW⟩ : ∃ W, w.alloc (.cells #[u1, u2] 24) = W := ⟨_, rfl⟩
  have hb0 : Below w.heap.size w W := by rw [← hW]; exact (Below.refl _ w).alloc (Nat.le_refl _) _
  have hB0 : Blk W w.heap.size 24 #[u1, u2] := by rw [← hW]; exact Blk.new w _ _
  have HS := Lib.hid (And.intro (h1.below hb0 (Nat.le_refl _)) (h2.below hb0 (Nat.le_refl _)))
  have HI := Lib.hid (And.intro (And.intro (g1.below hb0 (Nat.le_refl _)) (g2.below hb0 (Nat.le_refl _))) (And.intro hz1 hz2))
  obtain ⟨A1, c1, rfl, hc1, hm1', _⟩ := h1
  obtain ⟨A2, c2, rfl, hc2, hm2', _⟩ := h2
  obtain ⟨A3, c3, rfl, _, _, _⟩ := g1
  obtain ⟨A4, c4, rfl, _, _, _⟩ := g2
  clear hz1 hz2
  obtain ⟨n2, hn2'⟩ : ∃ n, l2.length = n := ⟨_, rfl⟩
  obtain ⟨n1, hn1'⟩ : ∃ n, l1.length = n := ⟨_, rfl⟩
  obtain ⟨n4, hn4'⟩ : ∃ n, ys.length = n := ⟨_, rfl⟩
  obtain ⟨n3, hn3'⟩ : ∃ n, xs.length = n := ⟨_, rfl⟩
  rw [hn2'] at hB0 hW hc2 hn2 ⊢
  rw [hn1'] at hB0 hW hc1 hn1 ⊢
  rw [hn3'] at hm1 ⊢
  rw [hn4'] at hm2 ⊢
  unfold maxLen at hm1' hm2'
  have HL := Lib.hid (And.intro (And.intro hn1' hn2') (And.intro hn3' hn4'))
  rw [hn1', hn2'] at HS
  rw [hn3', hn4'] at HI
  clear hn1' hn2' hn3' hn4'
  obtain ⟨g, hg⟩ : ∃ g, w.heap.size = g := ⟨_, rfl⟩
  rw [hg] at hB0
  have HW := Lib.hid (And.intro hW (And.intro hb0 (And.intro hB0 hg))); clear hW hb0 hB0
  go_enter Tryz.func20, Tryz.ntmps20
  go_upto_region 1 with fail
  rw [HW.out.1]
  clear hg
  go_upto_region 2 with fail
  have k0 : ∀ m : Held (fun W => Blk W g 24 #[.slice A1 n1 c1, .slice A2 n2 c2]), (HeldW m).cell? ⟨g, 0, none⟩ = some (.slice A1 n1 c1) := fun m => (HeldW_spec m).cell 0
  have k1 : ∀ m : Held (fun W => Blk W g 24 #[.slice A1 n1 c1, .slice A2 n2 c2]), (HeldW m).cell? ⟨g, 1, none⟩ = some (.slice A2 n2 c2) := fun m => (HeldW_spec m).cell 1
  have HC0 := Lib.hid HW.out.2.2.1.drew
  refine wp_region_mix (fun W => Blk W g 24 #[.slice A1 n1 c1, .slice A2 n2 c2]) [(1, true), (2, true), (4, true), (5, true), (8, true), (0, false), (3, false), (6, false), (7, true)] (by kernel_rfl) (by kernel_rfl) ?_
  simp only [pickP, List.filterMap_cons, List.filterMap_nil, List.getElem?_toArray, List.getElem?_cons_succ, List.getElem?_cons_zero, Option.map_some]
  repeat (apply mix_first; apply Exists.intro; refine ⟨fun m => ?_, HC0.out, ?_⟩; · (go_big_quiet_step (fail); exact wpQuiet_nil rfl))
  refine mix_forced HC0.out ?_
  go_wp2_with fail
  show mixC _ _ _ _ _ _ _
  have hs0 := HW.out.2.1.size
  rw [HW.out.2.2.2] at hs0
  have hbE : Below W.heap.size W (W.alloc (.cells #[] 74)).drew := ((Below.refl _ W).alloc (Nat.le_refl _) _).drew
  have hoE : (W.alloc (.cells #[] 74)).drew.ownsRow W.heap.size 74 6 (.slice (some ⟨W.heap.size, 0, none⟩) 0 0) 0 [] := own_emptyB W W.heap.size _ 6 (Nat.le_refl _)
  have HE := Lib.hid (And.intro hbE (And.intro hoE (And.intro (HW.out.2.2.1.below hbE HW.out.2.2.1.lt) (And.intro (HS.out.1.below hbE (Nat.le_refl _)) (HS.out.2.below hbE (Nat.le_refl _))))))
  clear hbE hoE HC0
  generalize (W.alloc (.cells #[] 74)).drew = W1 at *
  refine mix_forced HE.out.2.2.1 ?_
  go_wp2_with (at_builtin; refine wpList_app_slv rfl _ _ 22 rfl W.heap.size 74 (.agg #[.string ⟨#[]⟩, .int .i64 0, .int .i64 0, .int .u32 0, .int .i64 0, .int .u32 0]) 6 56 Tryz.underlying22 infoMk rfl (by decide) _ 0 _ rfl HE.out.2.1 eCM eCM_len eCM_one _ l1 rfl HE.out.2.2.2.1 (by have := HL.out.1.1; omega) (by decide) HE.out.1.size ?_; intro v5 w5 ho5 hg5)
  show mixC _ _ _ _ _ _ _
  obtain ⟨A5, k5, rfl, _, _, _⟩ := SlV_of_any ho5
  have hb5 := HE.out.1.grown hg5 HE.out.1.size (fun q hq => (HE.out.2.1.lt q hq).1)
  have H5 := Lib.hid (And.intro hb5 (And.intro ho5 (And.intro (HW.out.2.2.1.below hb5 HW.out.2.2.1.lt) (HS.out.2.below hb5 (Nat.le_refl _))))); clear ho5 hg5 hb5 HE
  refine mix_forced H5.out.2.2.1 ?_
  go_wp2_with (at_builtin; refine wpList_app_slv rfl _ _ 22 rfl W.heap.size 74 (.agg #[.string ⟨#[]⟩, .int .i64 0, .int .i64 0, .int .u32 0, .int .i64 0, .int .u32 0]) 6 56 Tryz.underlying22 infoMk rfl (by decide) _ (0 + l1.length) _ rfl H5.out.2.1 eCM eCM_len eCM_one _ l2 rfl H5.out.2.2.2 (by have := HL.out.1; omega) (by decide) H5.out.1.size ?_; intro v6 w6 ho6 hg6)
  show mixC _ _ _ _ _ _ _
  have hb6 := H5.out.1.grown hg6 H5.out.1.size (fun q hq => (H5.out.2.1.lt q hq).1)
  have ho6' : w6.ownsRow W.heap.size 74 6 v6 (l1 ++ l2).length ((l1 ++ l2).flatMap eCM) := by
    rw [List.length_append, List.flatMap_append]
    rw [List.nil_append, Nat.zero_add] at ho6
    exact ho6
  have hsl6 : SlV w6 6 eCM v6 (l1 ++ l2) := SlV.of_own ho6' eCM_len (by decide)
  have hll : (l1 ++ l2).length = n1 + n2 := by rw [List.length_append, HL.out.1.1, HL.out.1.2]
  rw [hll] at ho6'
  obtain ⟨A6, k6, rfl, _, _, _⟩ := SlV_of_any ho6'
  have H6 := Lib.hid (And.intro hb6 (And.intro (HW.out.2.2.1.below hb6 HW.out.2.2.1.lt) hsl6)); clear ho6 hg6 hb6 H5 ho6' hsl6
  obtain ⟨L, hLe⟩ : ∃ L, l1 ++ l2 = L := ⟨_, rfl⟩
  rw [hLe] at hll H6 HI
  have HLE := Lib.hid hLe; clear hLe
  obtain ⟨n, hnn⟩ : ∃ n, n1 + n2 = n := ⟨_, rfl⟩
  rw [hnn] at hll
  have hn60 : n ≤ 200 := by omega
  have HN := Lib.hid hll
  rw [hnn] at H6 ⊢
  clear hll hnn
  repeat (apply mix_first; apply Exists.intro; refine ⟨fun m => ?_, H6.out.2.1, ?_⟩; · (go_big_quiet_step (fail); exact wpQuiet_nil rfl))
  refine mix_nil H6.out.2.1 ?_
  clear k0 k1
  go_wp2_with fail
  go_loopw [7, 20] (fun o iv wr => ∃ i : Nat, i ≤ n ∧ iv = .int .i64 i ∧ Below W.heap.size W wr ∧ Below w6.heap.size w6 wr ∧ PsI w o ((L.take i).map Prod.fst) wr) (fun _ iv _ => n - (intOf iv).toNat)
  case atStart => exact ⟨0, Nat.zero_le _, rfl, H6.out.1, Below.refl _ _, [], World.ownsRow_nil _ _ _ _, List.Pairwise.nil, fun q => by simp, by simp, fun _ => rfl⟩
  case round =>
    obtain ⟨i, hi, rfl, hb, hb6, hP⟩ := hrel
    have hslr := H6.out.2.2.below hb6 (Nat.le_refl _)
    have hww := Nat.le_trans HW.out.2.1.size hb.size
    by_cases hlt : i < n
    · have hiL : i < L.length := by have := HN.out; omega
      obtain ⟨A', c', hA, _, _, hso⟩ := hslr
      obtain ⟨rfl, -, rfl⟩ : A6 = A' ∧ n = L.length ∧ k6 = c' := by simpa using hA
      clear hA
      obtain ⟨b, off, rfl, hbb, hcs⟩ := hso (by omega)
      have c0 := hcs i hiL 0 (by omega)
      have c1 := hcs i hiL 1 (by omega)
      have c2 := hcs i hiL 2 (by omega)
      have c3' := hcs i hiL 3 (by omega)
      have c4 := hcs i hiL 4 (by omega)
      have c5 := hcs i hiL 5 (by omega)
      simp only [eCM, List.getElem?_cons_succ, List.getElem?_cons_zero, Nat.add_zero] at c0 c1 c2 c3' c4 c5
      clear hcs hso hbb
      have hi1 : (i : Int) < n := by omega
      have hqz := HI.out.2.1 _ (List.getElem_mem hiL)
      have hst : (L.take (i + 1)).map Prod.fst = (L.take i).map Prod.fst ++ [L[i].1] := by rw [List.take_succ_eq_append_getElem hiL, List.map_append]; rfl
      obtain ⟨⟨q, ⟨kd, md, tm, sz, sm⟩⟩, hx⟩ : ∃ x, L[i] = x := ⟨_, rfl⟩
      simp only [hx] at c0 c1 c2 c3' c4 c5 hqz hst
      clear hx
      have hba := (Below.refl wr.heap.size wr).alloc (Nat.le_refl _) (.cells #[.string q, .int .i64 kd, .int .i64 md, .int .u32 tm, .int .i64 sz, .int .u32 sm] 74)
      have HPU := Lib.hid (psI_put (hP.below hba) (by simp; omega) (by rw [List.length_map, List.length_take]; omega) q (fun x hx => by
        obtain ⟨m, hm, rfl⟩ := List.mem_map.1 hx
        exact HI.out.2.1 m (List.mem_of_mem_take hm)) hqz)
      have H1 := Lib.hid (And.intro (hb.trans (hba.mono hb.size)) (hb6.trans (hba.mono hb6.size)))
      have HST := Lib.hid hst
      clear hb hb6 hba hP hst hqz
      go_wp2_with fail
      refine HPU.out.mono ?_
      rintro e w7 ⟨⟨u, rfl, hP7⟩, hb7⟩
      rw [← HST.out] at hP7
      have H7 := Lib.hid (And.intro (H1.out.1.trans (hb7.mono H1.out.1.size)) (And.intro (H1.out.2.trans (hb7.mono H1.out.2.size)) hP7)); clear hb7 hP7 HPU H1
      go_wp2_with fail
      go_roundw
      case rel => exact ⟨i + 1, by omega, by go_num, H7.out.1, H7.out.2.1, H7.out.2.2⟩
      case measure => simp [intOf]; omega
    · obtain rfl : i = n := by omega
      have hf : L.take i = L := List.take_of_length_le (by have := HN.out; omega)
      rw [hf] at hP
      have H8 := Lib.hid (And.intro hb hP)
      have hsI1 := HI.out.1.1.below hb (Nat.le_refl _)
      have hsI2 := HI.out.1.2.below hb (Nat.le_refl _)
      have HI2 := Lib.hid (And.intro hsI1 hsI2)
      clear hf hb hb6 hP hslr hsI1 hsI2 H6
      generalize wr = w8 at *
      have hmm : n3 + ys.length = (xs ++ ys).length := by rw [List.length_append, HL.out.2.1]
      have hmf : xs.flatMap eCSN ++ ys.flatMap eCSN = (xs ++ ys).flatMap eCSN := by rw [List.flatMap_append]
      have hml : (xs ++ ys).length ≤ 200 := by rw [List.length_append, HL.out.2.1, HL.out.2.2]; omega
      obtain ⟨M, hMe⟩ : ∃ M, xs ++ ys = M := ⟨_, rfl⟩
      rw [hMe] at hmm hmf hml HI
      have HME := Lib.hid hMe; clear hMe
      obtain ⟨m, hm⟩ : ∃ m, M.length = m := ⟨_, rfl⟩
      rw [hm] at hmm hml
      have HMM := Lib.hid (And.intro hmm (And.intro hmf hm)); clear hmm hmf hm
      go_wp2_with (first | (at_builtin; refine wpList_app_slv rfl _ _ 25 rfl w8.heap.size 55 (.agg #[.string ⟨#[]⟩, .int .i64 0, .int .i64 0, .int .u32 0, .string ⟨#[]⟩]) 5 56 Tryz.underlying25 infoIt rfl (by decide) _ 0 _ rfl (own_emptyB w8 w8.heap.size _ 5 (Nat.le_refl _)) eCSN eCSN_len eCSN_one _ xs rfl (HI2.out.1.below ((Below.refl _ w8).alloc (Nat.le_refl _) _) (Nat.le_refl _)) (by have := HL.out.2.1; omega) (by decide) (by simp) ?_; intro v9 w9 ho9 hg9; rw [Nat.zero_add, List.nil_append, HL.out.2.1] at ho9; have hb9 : Below w8.heap.size w8 w9 := ((Below.refl _ w8).alloc (Nat.le_refl _) _).grown hg9 (by simp) (fun q hq => by cases hq; exact Nat.le_refl _); obtain ⟨A9, k9, rfl, _, _, _⟩ := SlV_of_any ho9; have hz9 := hb9.size; have H9 := Lib.hid (And.intro hb9 (And.intro ho9 (HI2.out.2.below hb9 (Nat.le_refl _)))); clear ho9 hg9 hb9) | (at_builtin; refine wpList_app_slv rfl _ _ 25 rfl w8.heap.size 55 (.agg #[.string ⟨#[]⟩, .int .i64 0, .int .i64 0, .int .u32 0, .string ⟨#[]⟩]) 5 56 Tryz.underlying25 infoIt rfl (by decide) (.slice A9 n3 k9) n3 _ rfl H9.out.2.1 eCSN eCSN_len eCSN_one _ ys rfl H9.out.2.2 (by have := HL.out.2; omega) (by decide) hz9 ?_; intro v10 w10 ho10 hg10; rw [HMM.out.1, HMM.out.2.1] at ho10; have hb10 := H9.out.1.grown hg10 hz9 (fun q hq => (H9.out.2.1.lt q hq).1); obtain ⟨A10, k10, rfl, _, _, _⟩ := SlV_of_any ho10; have H10 := Lib.hid (And.intro hb10 ho10); clear ho10 hg10 hb10 H9))
      have hsl10 : SlV w10 5 eCSN (.slice A10 m k10) M := SlV.of_own H10.out.2 eCSN_len (by decide)
      have hbW10 := H8.out.1.trans (H10.out.1.mono H8.out.1.size)
      have H11 := Lib.hid (And.intro hbW10 (And.intro (H8.out.2.below H10.out.1) hsl10)); clear hsl10 hbW10 H10
      go_loopw [7, 35] (fun o iv wr => ∃ j : Nat, j ≤ m ∧ iv = .int .i64 j ∧ Below W.heap.size W wr ∧ Below w10.heap.size w10 wr ∧ PsI w o (L.map Prod.fst ++ (M.take j).map Prod.fst) wr) (fun _ iv _ => m - (intOf iv).toNat)
      case atStart => exact ⟨0, Nat.zero_le _, rfl, H11.out.1, Below.refl _ _, by have := H11.out.2.1; simpa using this⟩
      case round =>
        obtain ⟨j, hj, rfl, hb, hb10, hP⟩ := hrel
        have hslr := H11.out.2.2.below hb10 (Nat.le_refl _)
        have hww2 := Nat.le_trans HW.out.2.1.size hb.size
        by_cases hlt2 : j < m
        · have hjM : j < M.length := by have := HMM.out.2.2; omega
          obtain ⟨A', c', hA, _, _, hso⟩ := hslr
          obtain ⟨rfl, -, rfl⟩ : A10 = A' ∧ m = M.length ∧ k10 = c' := by simpa using hA
          clear hA
          obtain ⟨b, off, rfl, hbb, hcs⟩ := hso (by omega)
          have c0 := hcs j hjM 0 (by omega)
          have c1 := hcs j hjM 1 (by omega)
          have c2 := hcs j hjM 2 (by omega)
          have c3' := hcs j hjM 3 (by omega)
          have c4 := hcs j hjM 4 (by omega)
          simp only [eCSN, List.getElem?_cons_succ, List.getElem?_cons_zero, Nat.add_zero] at c0 c1 c2 c3' c4
          clear hcs hso hbb
          have hj1 : (j : Int) < m := by omega
          have hqz := HI.out.2.2 _ (List.getElem_mem hjM)
          have hst : L.map Prod.fst ++ (M.take (j + 1)).map Prod.fst = L.map Prod.fst ++ (M.take j).map Prod.fst ++ [M[j].1] := by rw [List.take_succ_eq_append_getElem hjM, List.map_append, List.append_assoc]; rfl
          obtain ⟨⟨q, ⟨kd, md, tm, dt⟩⟩, hx⟩ : ∃ x, M[j] = x := ⟨_, rfl⟩
          simp only [hx] at c0 c1 c2 c3' c4 hqz hst
          clear hx
          have hba := (Below.refl wr.heap.size wr).alloc (Nat.le_refl _) (.cells #[.string q, .int .i64 kd, .int .i64 md, .int .u32 tm, .string dt] 55)
          have HPU := Lib.hid (psI_put (hP.below hba) (by simp; omega) (by rw [List.length_append, List.length_map, List.length_map, List.length_take]; have := HN.out; omega) q (fun x hx => by
            rcases List.mem_append.1 hx with hx | hx
            · obtain ⟨m, hm, rfl⟩ := List.mem_map.1 hx
              exact HI.out.2.1 m hm
            · obtain ⟨m, hm, rfl⟩ := List.mem_map.1 hx
              exact HI.out.2.2 m (List.mem_of_mem_take hm)) hqz)
          have H1 := Lib.hid (And.intro (hb.trans (hba.mono hb.size)) (hb10.trans (hba.mono hb10.size)))
          have HST := Lib.hid hst
          clear hb hb10 hba hP hst hqz
          go_wp2_with fail
          refine HPU.out.mono ?_
          rintro e w7 ⟨⟨u, rfl, hP7⟩, hb7⟩
          rw [← HST.out] at hP7
          have H7 := Lib.hid (And.intro (H1.out.1.trans (hb7.mono H1.out.1.size)) (And.intro (H1.out.2.trans (hb7.mono H1.out.2.size)) hP7)); clear hb7 hP7 HPU H1
          go_wp2_with fail
          go_roundw
          case rel => exact ⟨j + 1, by omega, by go_num, H7.out.1, H7.out.2.1, H7.out.2.2⟩
          case measure => simp [intOf]; omega
        · obtain rfl : j = m := by omega
          have hf : M.take j = M := List.take_of_length_le (by have := HMM.out.2.2; omega)
          rw [hf] at hP
          have HF := Lib.hid (And.intro hP (HW.out.2.1.trans (hb.mono HW.out.2.1.size)))
          clear hf hP hb hb10 hslr
          go_wp2_with fail
          go_ret
          exact ⟨by rw [HLE.out, HME.out]; exact HF.out.1.ans, HF.out.2⟩
end Go.Proofs.YtlfeeiloijmagaaGreatDoor
/- The reference's Find in a Base. -/
set_option linter.unusedVariables false
set_option linter.unusedSimpArgs false
namespace Sw
open Go
theorem findM_app (l1 l2 : List MkE) (p : ByteArray) : findM (l1 ++ l2) p = if (findM l1 p).isSome = true then findM l1 p else findM l2 p := by
  unfold findM
  rw [List.find?_append]
  cases h : l1.find? (fun m => decide (m.1 = p)) with
  | none => simp
  | some x => simp
end Sw
namespace Go.Proofs.YtlfeeiloijmagaaGreatDoor
open Go Go.RowKit
open Sw
set_option maxRecDepth 100000 in
set_option maxHeartbeats 8000000 in
theorem refFindM_any (w : World) (u1 u2 : Value) (l1 l2 : List MkE) (p : ByteArray) (h1 : SlV w 6 eCM u1 l1) (h2 : SlV w 6 eCM u2 l2) (hl1 : l1.length ≤ 100000) (hl2 : l2.length ≤ 100000) :
    Calls Tryz.prog 22 #[.agg #[u1, u2], .string p] w fun e w' => e = .returned (.tuple #[.agg ((findM (l1 ++ l2) p).getD ⟨0, 0, 0, 0, 0⟩).c, .bool (findM (l1 ++ l2) p).isSome]) ∧ Below w.heap.size w w' := by
  obtain ⟨W0, hW0⟩ : ∃ W0, (w.alloc (.cells #[u1, u2] 24)).alloc (.cells #[.int .i64 0, .int .i64 0, .int .u32 0, .int .i64 0, .int .u32 0] 62) = W0 := ⟨_, rfl⟩
  have hb2 : Below w.heap.size w W0 := by rw [← hW0]; exact ((Below.refl _ w).alloc (Nat.le_refl _) _).alloc (by simp) _
  have hR0 : Blk W0 (w.heap.size + 1) 62 #[.int .i64 0, .int .i64 0, .int .u32 0, .int .i64 0, .int .u32 0] := by rw [← hW0]; exact blk_snd _ _ _ _
  have hB0 : Blk W0 w.heap.size 24 #[u1, u2] := by rw [← hW0]; exact blk_fst _ _ _ _
  have HG1 := Lib.hid (refGet26_any W0 u1 l1 p (h1.below hb2 (Nat.le_refl _)) (by omega))
  have HS2 := Lib.hid h2
  have HB := Lib.hid (And.intro hb2 (And.intro hR0 hB0))
  have HW0 := Lib.hid hW0
  have q0 := hB0.cell 0
  simp at q0
  obtain ⟨A1, k1, rfl, _, _, _⟩ := h1
  obtain ⟨A2, k2, rfl, _, _, _⟩ := h2
  have HF := Lib.hid (findM_app l1 l2 p)
  generalize findM (l1 ++ l2) p = ff at *
  obtain ⟨f1, hf1⟩ : ∃ f, findM l1 p = f := ⟨_, rfl⟩
  rw [hf1] at HG1 HF
  clear hb2 hR0 hW0 hB0 hl1 hf1
  generalize l1.length = n1 at *
  obtain ⟨n2, hn2⟩ : ∃ n, l2.length = n := ⟨_, rfl⟩
  rw [hn2] at HB HS2 HW0 ⊢
  have HN2 := Lib.hid hn2; clear hn2
  obtain ⟨⟨pk, pm, pt, ps, pu⟩, hpp⟩ : ∃ x, f1.getD ⟨0, 0, 0, 0, 0⟩ = x := ⟨_, rfl⟩
  obtain ⟨bb, hbb⟩ : ∃ b, f1.isSome = b := ⟨_, rfl⟩
  rw [hpp, hbb] at HG1
  simp only [Pr.c] at HG1
  rw [hbb] at HF
  have HPP := Lib.hid (And.intro hpp hbb); clear hpp hbb
  go_enter Tryz.func22, Tryz.ntmps22
  go_upto_region 1 with fail
  rw [HW0.out]
  go_wp2_with fail
  refine HG1.out.mono ?_
  rintro e w1 ⟨rfl, hb1⟩
  have hba : Below w1.heap.size w1 (w1.alloc (.cells #[.int .i64 pk, .int .i64 pm, .int .u32 pt, .int .i64 ps, .int .u32 pu] 62)) := (Below.refl _ w1).alloc (Nat.le_refl _) _
  have hb3 := hb1.trans (hba.mono hb1.size)
  have H1 := Lib.hid (And.intro (HB.out.1.trans (hb3.mono HB.out.1.size)) (And.intro (HB.out.2.1.below hb3 HB.out.2.1.lt) (HB.out.2.2.below hb3 HB.out.2.2.lt)))
  clear hb1 hba hb3 HG1 q0
  cases bb with
  | true =>
    have x0 := H1.out.2.1.cell 0
    have x1 := H1.out.2.1.cell 1
    have x2 := H1.out.2.1.cell 2
    have x3 := H1.out.2.1.cell 3
    have x4 := H1.out.2.1.cell 4
    simp at x0 x1 x2 x3 x4
    have f0 := H1.out.2.1.frozen 0
    have f1 := H1.out.2.1.frozen 1
    have f2 := H1.out.2.1.frozen 2
    have f3 := H1.out.2.1.frozen 3
    have f4 := H1.out.2.1.frozen 4
    go_wp2_with fail
    refine bodyPost_ret (res_blk_tmp rfl _ _ (w.heap.size + 1) 62 #[.int .i64 pk, .int .i64 pm, .int .u32 pt, .int .i64 ps, .int .u32 pu] _ rfl (((((H1.out.2.1.put 0 (.int .i64 pk)).put 1 (.int .i64 pm)).put 2 (.int .u32 pt)).put 3 (.int .i64 ps)).put 4 (.int .u32 pu)) Tryz.underlying62 rfl (by kernel_rfl)) rfl ⟨?_, ?_⟩
    · have h1 := HF.out
      rw [if_pos trivial] at h1
      rw [h1, HPP.out.1, HPP.out.2]
      rfl
    · exact ((((H1.out.1.setCell (p := ⟨w.heap.size + 1, 0, none⟩) (Nat.le_succ _) (.int .i64 pk)).setCell (p := ⟨w.heap.size + 1, 1, none⟩) (Nat.le_succ _) (.int .i64 pm)).setCell (p := ⟨w.heap.size + 1, 2, none⟩) (Nat.le_succ _) (.int .u32 pt)).setCell (p := ⟨w.heap.size + 1, 3, none⟩) (Nat.le_succ _) (.int .i64 ps)).setCell (p := ⟨w.heap.size + 1, 4, none⟩) (Nat.le_succ _) (.int .u32 pu)
  | false =>
    have q1 := H1.out.2.2.cell 1
    simp at q1
    have HG2 := Lib.hid (refGet26_any _ (.slice A2 n2 k2) l2 p (HS2.out.below H1.out.1 (Nat.le_refl _)) (by have := HN2.out; omega))
    obtain ⟨f2, hf2⟩ : ∃ f, findM l2 p = f := ⟨_, rfl⟩
    rw [hf2] at HG2 HF
    clear hf2
    obtain ⟨⟨qk, qm, qt, qs, qu⟩, hqq⟩ : ∃ x, f2.getD ⟨0, 0, 0, 0, 0⟩ = x := ⟨_, rfl⟩
    obtain ⟨b2, hb2⟩ : ∃ b, f2.isSome = b := ⟨_, rfl⟩
    rw [hqq, hb2] at HG2
    simp only [Pr.c] at HG2
    have HQQ := Lib.hid (And.intro hqq hb2); clear hqq hb2
    go_wp2_with fail
    refine HG2.out.mono ?_
    rintro e w3 ⟨rfl, hb3⟩
    have H3 := Lib.hid (And.intro (H1.out.1.trans (hb3.mono H1.out.1.size)) (H1.out.2.1.below hb3 H1.out.2.1.lt))
    clear hb3 q1 HG2
    have x0 := H3.out.2.cell 0
    have x1 := H3.out.2.cell 1
    have x2 := H3.out.2.cell 2
    have x3 := H3.out.2.cell 3
    have x4 := H3.out.2.cell 4
    simp at x0 x1 x2 x3 x4
    have g0 := H3.out.2.frozen 0
    have g1 := H3.out.2.frozen 1
    have g2 := H3.out.2.frozen 2
    have g3 := H3.out.2.frozen 3
    have g4 := H3.out.2.frozen 4
    go_wp2_with fail
    refine bodyPost_ret (res_blk_tmp rfl _ _ (w.heap.size + 1) 62 #[.int .i64 qk, .int .i64 qm, .int .u32 qt, .int .i64 qs, .int .u32 qu] _ rfl (((((H3.out.2.put 0 (.int .i64 qk)).put 1 (.int .i64 qm)).put 2 (.int .u32 qt)).put 3 (.int .i64 qs)).put 4 (.int .u32 qu)) Tryz.underlying62 rfl (by kernel_rfl)) rfl ⟨?_, ?_⟩
    · have h1 := HF.out
      rw [if_neg (by decide)] at h1
      rw [h1, HQQ.out.1, HQQ.out.2]
      rfl
    · exact ((((H3.out.1.setCell (p := ⟨w.heap.size + 1, 0, none⟩) (Nat.le_succ _) (.int .i64 qk)).setCell (p := ⟨w.heap.size + 1, 1, none⟩) (Nat.le_succ _) (.int .i64 qm)).setCell (p := ⟨w.heap.size + 1, 2, none⟩) (Nat.le_succ _) (.int .u32 qt)).setCell (p := ⟨w.heap.size + 1, 3, none⟩) (Nat.le_succ _) (.int .i64 qs)).setCell (p := ⟨w.heap.size + 1, 4, none⟩) (Nat.le_succ _) (.int .u32 qu)
end Go.Proofs.YtlfeeiloijmagaaGreatDoor
/- The reference's All of a Base and two rows of items. -/
set_option linter.unusedVariables false
set_option linter.unusedSimpArgs false
namespace Go.Proofs.YtlfeeiloijmagaaGreatDoor
open Go Go.RowKit
open Sw
theorem infoS30 : (Tryz.prog.info? 40).map (fun i => (i.zero, i.size, i.bytes)) = some (some (.agg #[.string ⟨#[]⟩, .int .i64 0, .int .i64 0, .int .i64 0, .int .i64 0, .int .u32 0, .string ⟨#[]⟩, .int .i64 0, .int .i64 0, .int .u32 0, .string ⟨#[]⟩]), 11, 112) := by kernel_rfl
/-- a row of the reference's steps that the call owns -/
def OwnS30 (w : World) (base : Nat) (u : Value) (l : List StR) : Prop := w.ownsRow base 40 11 u l.length (l.flatMap eCR)
theorem OwnS30.app {w1 : World} {base g cap n : Nat} {l : List StR} {x : StR} (h : w1.ownsRow base 40 11 (.slice (some ⟨g, 0, none⟩) (n + 1) cap) (n + 1) (l.flatMap eCR ++ eCR x)) (hn : l.length = n) : OwnS30 w1 base (.slice (some ⟨g, 0, none⟩) (n + 1) cap) (l ++ [x]) := by
  unfold OwnS30
  rw [List.length_append, List.length_singleton, hn, List.flatMap_append]
  simpa using h
theorem OwnS30.slv {w : World} {base : Nat} {u : Value} {l : List StR} (h : OwnS30 w base u l) : SlV w 11 eCR u l := SlV.of_own h eCR_len (by decide)
/-- what All answers -/
def AllRAns (w' : World) (B : Nat) (l : List StR) (e : Ending) : Prop := ∃ u, e = .returned u ∧ OwnS30 w' B u l
set_option maxRecDepth 100000 in
set_option maxHeartbeats 8000000 in
theorem refAllR_any (w : World) (u1 u2 : Value) (l1 l2 : List MkE) (h1 : SlV w 6 eCM u1 l1) (h2 : SlV w 6 eCM u2 l2) (hn1 : l1.length ≤ 100) (hn2 : l2.length ≤ 100) (hz1 : ∀ m ∈ l1 ++ l2, m.1.size ≤ 90000)
    (v1 v2 : Value) (xs ys : List NE) (g1 : SlV w 5 eCSN v1 xs) (g2 : SlV w 5 eCSN v2 ys) (hm1 : xs.length ≤ 100) (hm2 : ys.length ≤ 100) (hz2 : ∀ m ∈ xs ++ ys, m.1.size ≤ 90000) (hup : Up ordS xs) (hup2 : Up ordS ys) (hxd : ∀ e ∈ xs, e.2.data.size ≤ maxLen) (hyd : ∀ e ∈ ys, e.2.data.size ≤ maxLen) :
    Calls Tryz.prog 7 #[.agg #[u1, u2], v1, v2] w fun e w' => AllRAns w' w.heap.size (allR (l1 ++ l2) xs ys) e ∧ Below w.heap.size w w' := by
  obtain ⟨W0, hW0⟩ : ∃ W0, w.alloc (.cells #[u1, u2] 24) = W0 := ⟨_, rfl⟩
  have hb0 : Below w.heap.size w W0 := by rw [← hW0]; exact (Below.refl _ w).alloc (Nat.le_refl _) _
  have hB0 : Blk W0 w.heap.size 24 #[u1, u2] := by rw [← hW0]; exact Blk.new _ _ _
  have hpp := refPathsP_any W0 u1 u2 l1 l2 (h1.below hb0 (Nat.le_refl _)) (h2.below hb0 (Nat.le_refl _)) hn1 hn2 hz1 v1 v2 xs ys (g1.below hb0 (Nat.le_refl _)) (g2.below hb0 (Nat.le_refl _)) hm1 hm2 hz2
  have hpe : (l1 ++ l2).map Prod.fst ++ (xs ++ ys).map Prod.fst = (l1 ++ l2).map Prod.fst ++ xs.map Prod.fst ++ ys.map Prod.fst := by simp only [List.map_append, List.append_assoc]
  rw [hpe] at hpp
  have HP := Lib.hid hpp
  have HW := Lib.hid hW0
  have H0 := Lib.hid (And.intro hb0 (And.intro hB0 (And.intro (And.intro h1 h2) (And.intro g1 g2))))
  have hpl : (pathsS ((l1 ++ l2).map Prod.fst ++ xs.map Prod.fst ++ ys.map Prod.fst)).length ≤ 3000 := Nat.le_trans (pathsS_len _) (by simp only [List.length_append, List.length_map]; omega)
  have HA := Lib.hid (show allR (l1 ++ l2) xs ys = (pathsS ((l1 ++ l2).map Prod.fst ++ xs.map Prod.fst ++ ys.map Prod.fst)).map (stepR (l1 ++ l2) xs ys) from rfl)
  have HX := Lib.hid (And.intro (And.intro hup hxd) (And.intro hup2 hyd))
  obtain ⟨ans, hans⟩ : ∃ ans, allR (l1 ++ l2) xs ys = ans := ⟨_, rfl⟩
  obtain ⟨ps, hps⟩ : ∃ ps, pathsS ((l1 ++ l2).map Prod.fst ++ xs.map Prod.fst ++ ys.map Prod.fst) = ps := ⟨_, rfl⟩
  unfold PathsAns at HP
  rw [hps] at HP hpl HA
  rw [hans] at HA
  rw [hans]
  obtain ⟨A1, c1, rfl, _, _, _⟩ := g1
  obtain ⟨A2, c2, rfl, _, _, _⟩ := g2
  obtain ⟨n3, hn3⟩ : ∃ n, xs.length = n := ⟨_, rfl⟩
  obtain ⟨n4, hn4⟩ : ∃ n, ys.length = n := ⟨_, rfl⟩
  simp only [hn3, hn4] at HP H0 ⊢
  clear hb0 hB0 hW0 h1 h2 hz1 hz2 hup hup2 hxd hyd hpp hps hans hpe hn3 hn4
  go_enter Tryz.func7, Tryz.ntmps7
  go_wp2_with fail
  rw [HW.out]
  refine HP.out.mono ?_
  rintro e w1 ⟨⟨u, rfl, ho⟩, hb1⟩
  have hslu := ho.slv
  unfold OwnS at ho
  obtain ⟨A3, k3, rfl, hk3, -, -⟩ := SlV_of_any ho
  have H1 := Lib.hid (And.intro hslu (And.intro (H0.out.1.trans (hb1.mono H0.out.1.size)) (H0.out.2.1.below hb1 H0.out.2.1.lt)))
  obtain ⟨n, hn⟩ : ∃ n, ps.length = n := ⟨_, rfl⟩
  rw [hn] at H1 hpl hk3
  rw [hn]
  have HN := Lib.hid hn
  clear ho hb1 hn HP hslu
  go_wp2_with fail
  go_loopw [7, 21] (fun o iv wr => ∃ i : Nat, iv = .int .i64 i ∧ i ≤ n ∧ OwnS30 wr w1.heap.size o (ans.take i) ∧ Below w1.heap.size w1 wr) (fun _ iv _ => n - (intOf iv).toNat)
  case atStart => exact ⟨0, rfl, Nat.zero_le _, World.ownsRow_nil _ _ _ _, Below.refl _ _⟩
  case round =>
    obtain ⟨i, rfl, hi, ho, hb⟩ := hrel
    have hbw := H1.out.2.1.trans (hb.mono H1.out.2.1.size)
    have hbs := hbw.size
    have hB := H1.out.2.2.below hb H1.out.2.2.lt
    by_cases hlt : i < n
    · have hiL : i < ps.length := by have := HN.out; omega
      obtain ⟨A', c', hA', _, _, hso⟩ := H1.out.1.below hb (Nat.le_refl _)
      obtain ⟨rfl, rfl⟩ : A3 = A' ∧ k3 = c' := by injection hA' with e1 e2 e3; exact ⟨e1, e3⟩
      clear hA'
      obtain ⟨b, off, rfl, hbb, hcs⟩ := hso (by omega)
      have c0 := hcs i hiL 0 (by omega)
      simp only [sE, List.getElem?_cons_zero, Nat.add_zero, Nat.mul_one] at c0
      clear hcs hso
      have hi1 : (i : Int) < n := by omega
      have hst : ans.take (i + 1) = ans.take i ++ [stepR (l1 ++ l2) xs ys ps[i]] := by
        rw [HA.out, List.take_succ_eq_append_getElem (by rw [List.length_map]; exact hiL), List.getElem_map]
      have hml : (ans.take i).length = i := by rw [List.length_take, HA.out, List.length_map]; omega
      obtain ⟨q, hx⟩ : ∃ x, ps[i] = x := ⟨_, rfl⟩
      simp only [hx] at c0 hst
      clear hx
      have hff := fun W (hW : Below w.heap.size w W) => refFindM_any W u1 u2 l1 l2 q (H0.out.2.2.1.1.below hW (Nat.le_refl _)) (H0.out.2.2.1.2.below hW (Nat.le_refl _)) (by omega) (by omega)
      have hg1 := fun W (hW : Below w.heap.size w W) => (show Calls Tryz.prog 21 #[.slice A1 n3 c1, .string q] W fun e w' => e = .returned (.agg (getT xs q).c) ∧ Below W.heap.size W w' from by
        have := ref16Get_any W _ xs q (H0.out.2.2.2.1.below hW (Nat.le_refl _))
        rw [refGetT_eq xs q HX.out.1.1] at this
        exact this)
      have hg2 := fun W (hW : Below w.heap.size w W) => (show Calls Tryz.prog 21 #[.slice A2 n4 c2, .string q] W fun e w' => e = .returned (.agg (getT ys q).c) ∧ Below W.heap.size W w' from by
        have := ref16Get_any W _ ys q (H0.out.2.2.2.2.below hW (Nat.le_refl _))
        rw [refGetT_eq ys q HX.out.2.1] at this
        exact this)
      have hs1 := getT_size (p := q) HX.out.1.1 HX.out.1.2
      have hs2 := getT_size (p := q) HX.out.2.1 HX.out.2.2
      have hsd : stepR (l1 ++ l2) xs ys q = ⟨q, (decideN ((findM (l1 ++ l2) q).getD ⟨0, 0, 0, 0, 0⟩) (findM (l1 ++ l2) q).isSome (getT xs q) (getT ys q)).1, (decideN ((findM (l1 ++ l2) q).getD ⟨0, 0, 0, 0, 0⟩) (findM (l1 ++ l2) q).isSome (getT xs q) (getT ys q)).2, getT xs q, getT ys q⟩ := rfl
      have hdd := fun W' => refDecide_any W' ((findM (l1 ++ l2) q).getD ⟨0, 0, 0, 0, 0⟩) (findM (l1 ++ l2) q).isSome (getT xs q) (getT ys q) hs1 hs2
      generalize stepR (l1 ++ l2) xs ys q = st at *
      generalize (findM (l1 ++ l2) q).getD ⟨0, 0, 0, 0, 0⟩ = pr at *
      generalize (findM (l1 ++ l2) q).isSome = had at *
      generalize getT xs q = nd1 at *
      generalize getT ys q = nd2 at *
      obtain ⟨vd, hvd⟩ : ∃ v, (decideN pr had nd1 nd2).1 = v := ⟨_, rfl⟩
      obtain ⟨cl, hcl⟩ : ∃ v, (decideN pr had nd1 nd2).2 = v := ⟨_, rfl⟩
      rw [hvd, hcl] at hsd
      simp only [hvd, hcl] at hdd
      clear hvd hcl hs1 hs2
      obtain ⟨fa, fb, fc, fd, fs⟩ := pr
      obtain ⟨ak, am, at', ad⟩ := nd1
      obtain ⟨ck, cm, ct, cd⟩ := nd2
      simp only [Pr.c, Nd.c] at hff hg1 hg2 hdd
      subst hsd
      have HFF := Lib.hid hff
      have HG1 := Lib.hid hg1
      have HG2 := Lib.hid hg2
      have HDD := Lib.hid hdd
      obtain ⟨A4, k4, rfl, _, _, _⟩ := SlV_of_any ho
      have HO := Lib.hid ho
      have HR := Lib.hid (And.intro hst (And.intro hb (And.intro hbw hB)))
      have HML := Lib.hid hml
      clear hff hg1 hg2 hdd ho hb hB hst hbw
      generalize ans.take i = F at *
      unfold OwnS30 at HO
      rw [hml] at HO ⊢
      clear hml
      go_wp2_with fail
      refine (HG1.out wr HR.out.2.2.1).mono ?_
      rintro e w2 ⟨rfl, hb2⟩
      have H2 := Lib.hid (And.intro (HR.out.2.2.1.trans (hb2.mono hbs)) hb2)
      clear hb2 HG1
      go_wp2_with fail
      refine (HG2.out w2 H2.out.1).mono ?_
      rintro e w3 ⟨rfl, hb3⟩
      have H3 := Lib.hid (H2.out.2.trans (hb3.mono H2.out.2.size))
      clear hb3 HG2 H2
      go_upto_region 6 with fail
      have hba : Below w3.heap.size w3 ((w3.alloc (.cells #[.int .i64 ak, .int .i64 am, .int .u32 at', .string ad] 38)).alloc (.cells #[.int .i64 ck, .int .i64 cm, .int .u32 ct, .string cd] 38)) := ((Below.refl _ w3).alloc (Nat.le_refl _) _).alloc (by simp) _
      have hBa : Blk ((w3.alloc (.cells #[.int .i64 ak, .int .i64 am, .int .u32 at', .string ad] 38)).alloc (.cells #[.int .i64 ck, .int .i64 cm, .int .u32 ct, .string cd] 38)) w3.heap.size 38 #[.int .i64 ak, .int .i64 am, .int .u32 at', .string ad] := blk_fst _ _ _ _
      have hBb : Blk ((w3.alloc (.cells #[.int .i64 ak, .int .i64 am, .int .u32 at', .string ad] 38)).alloc (.cells #[.int .i64 ck, .int .i64 cm, .int .u32 ct, .string cd] 38)) (w3.heap.size + 1) 38 #[.int .i64 ck, .int .i64 cm, .int .u32 ct, .string cd] := blk_snd _ _ _ _
      generalize (w3.alloc (.cells #[.int .i64 ak, .int .i64 am, .int .u32 at', .string ad] 38)).alloc (.cells #[.int .i64 ck, .int .i64 cm, .int .u32 ct, .string cd] 38) = w5 at *
      generalize w3.heap.size + 1 = Gb at *
      have hb5 := H3.out.trans (hba.mono H3.out.size)
      generalize w3.heap.size = Ga at *
      have H5 := Lib.hid (And.intro hb5 (And.intro hBa hBb))
      have hBx := HR.out.2.2.2.below hb5 HR.out.2.2.2.lt
      have q0 := hBx.cell 0
      have q1 := hBx.cell 1
      simp only [List.getElem?_toArray, List.getElem?_cons_succ, List.getElem?_cons_zero] at q0 q1
      clear hba hBa hBb hb5 hBx H3
      go_wp2_with fail
      refine (HFF.out w5 (HR.out.2.2.1.trans (H5.out.1.mono hbs))).mono ?_
      rintro e w6 ⟨rfl, hb6⟩
      have H6 := Lib.hid (And.intro (H5.out.1.trans (hb6.mono H5.out.1.size)) (And.intro (H5.out.2.1.below hb6 H5.out.2.1.lt) (H5.out.2.2.below hb6 H5.out.2.2.lt)))
      clear hb6 HFF H5 q0 q1
      go_upto_region 7 with fail
      have hba : Below w6.heap.size w6 (w6.alloc (.cells #[.int .i64 fa, .int .i64 fb, .int .u32 fc, .int .i64 fd, .int .u32 fs] 62)) := (Below.refl _ w6).alloc (Nat.le_refl _) _
      have hBP : Blk (w6.alloc (.cells #[.int .i64 fa, .int .i64 fb, .int .u32 fc, .int .i64 fd, .int .u32 fs] 62)) w6.heap.size 62 #[.int .i64 fa, .int .i64 fb, .int .u32 fc, .int .i64 fd, .int .u32 fs] := Blk.new _ _ _
      generalize w6.alloc (.cells #[.int .i64 fa, .int .i64 fb, .int .u32 fc, .int .i64 fd, .int .u32 fs] 62) = w7 at *
      have H7 := Lib.hid (And.intro (H6.out.1.trans (hba.mono H6.out.1.size)) (And.intro (H6.out.2.1.below hba H6.out.2.1.lt) (H6.out.2.2.below hba H6.out.2.2.lt)))
      have p0 := hBP.cell 0
      have p1 := hBP.cell 1
      have p2 := hBP.cell 2
      have p3 := hBP.cell 3
      have p4 := hBP.cell 4
      simp only [List.getElem?_toArray, List.getElem?_cons_succ, List.getElem?_cons_zero] at p0 p1 p2 p3 p4
      have x0 := H7.out.2.1.cell 0
      have x1 := H7.out.2.1.cell 1
      have x2 := H7.out.2.1.cell 2
      have x3 := H7.out.2.1.cell 3
      have y0 := H7.out.2.2.cell 0
      have y1 := H7.out.2.2.cell 1
      have y2 := H7.out.2.2.cell 2
      have y3 := H7.out.2.2.cell 3
      simp only [List.getElem?_toArray, List.getElem?_cons_succ, List.getElem?_cons_zero] at x0 x1 x2 x3 y0 y1 y2 y3
      clear hba hBP H6
      go_wp2_with fail
      refine (HDD.out w7).mono ?_
      rintro e w8 ⟨rfl, hb8⟩
      have H8 := Lib.hid (And.intro (H7.out.1.trans (hb8.mono H7.out.1.size)) (And.intro (H7.out.2.1.below hb8 H7.out.2.1.lt) (H7.out.2.2.below hb8 H7.out.2.2.lt)))
      have HO8 := Lib.hid (own_kept HO.out H8.out.1)
      have HB8 := Lib.hid (HR.out.2.1.trans (H8.out.1.mono HR.out.2.1.size))
      have hs8 := HB8.out.size
      clear p0 p1 p2 p3 p4 x0 x1 x2 x3 y0 y1 y2 y3 hb8 H7 HDD
      have x0 := H8.out.2.1.cell 0
      have x1 := H8.out.2.1.cell 1
      have x2 := H8.out.2.1.cell 2
      have x3 := H8.out.2.1.cell 3
      have y0 := H8.out.2.2.cell 0
      have y1 := H8.out.2.2.cell 1
      have y2 := H8.out.2.2.cell 2
      have y3 := H8.out.2.2.cell 3
      simp only [List.getElem?_toArray, List.getElem?_cons_succ, List.getElem?_cons_zero] at x0 x1 x2 x3 y0 y1 y2 y3
      go_wp2_with (at_builtin; refine wpList_app rfl _ _ 34 rfl w1.heap.size 40 (.agg #[.string ⟨#[]⟩, .int .i64 0, .int .i64 0, .int .i64 0, .int .i64 0, .int .u32 0, .string ⟨#[]⟩, .int .i64 0, .int .i64 0, .int .u32 0, .string ⟨#[]⟩]) 11 112 Tryz.underlying34 infoS30 rfl (by decide) _ i _ rfl (HO8.out.alloc _) w8.heap.size 1 #[.string q, .int .i64 vd, .int .i64 cl, .int .i64 ak, .int .i64 am, .int .u32 at', .string ad, .int .i64 ck, .int .i64 cm, .int .u32 ct, .string cd] 40 rfl (Blk.new _ _ _) rfl (by simp [Value.oneCell']) (by omega) (by decide) (by simp; omega) _ rfl ?_; intro g cap w9 hown1 hgrow1 hat hlt1)
      have HNX := Lib.hid (And.intro (OwnS30.app (x := ⟨q, vd, cl, ⟨ak, am, at', ad⟩, ⟨ck, cm, ct, cd⟩⟩) hown1 HML.out) (own_below HO8.out (HB8.out.alloc HB8.out.size _) hgrow1 (Nat.le_refl _) (by simp; omega)))
      clear hown1 hgrow1 hat hlt1 x0 x1 x2 x3 y0 y1 y2 y3
      go_wp2_with fail
      go_roundw
      case rel => exact ⟨i + 1, by go_num, by omega, by rw [HR.out.1]; exact HNX.out.1, HNX.out.2⟩
      case measure => simp [intOf]; omega
    · obtain rfl : i = n := by omega
      have hf : ans.take i = ans := List.take_of_length_le (by rw [HA.out, List.length_map]; have := HN.out; omega)
      rw [hf] at ho
      obtain ⟨A4, k4, rfl, _, _, _⟩ := SlV_of_any ho
      have h9 : OwnS30 wr w.heap.size (.slice A4 ans.length k4) ans := own_wide ho H1.out.2.1.size
      have HF := Lib.hid (And.intro (⟨_, rfl, h9⟩ : AllRAns wr w.heap.size ans (.returned (.slice A4 ans.length k4))) hbw)
      clear h9 ho hb hB hf hbw
      generalize ans.length = z at *
      go_wp2_with fail
      go_ret
      exact HF.out
end Go.Proofs.YtlfeeiloijmagaaGreatDoor
