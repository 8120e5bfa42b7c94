/- Several texts, joined for the limit of sixty files; each one opens with its own comment. -/
import Derived.Test.YteofiffbobbdmaaGreatDoorJoin25
import Derived.Test.YteofiffbobbdmaaGreatDoorJoin18
import Derived.Test.YteofiffbobbdmaaGreatDoorJoin19
import Derived.Test.YteofiffbobbdmaaGreatDoorJoin16
/- The reference's Paths of a Base and two rows of items. -/
set_option linter.unusedVariables false
set_option linter.unusedSimpArgs false
namespace Go.Proofs.YteofiffbobbdmaaGreatDoor
open Go Go.RowKit
open Sw
/-- the paths so far -/
def PsI (w : World) (o : Value) (S : List ByteArray) (W : World) : Prop := ∃ qs, OwnS W w.heap.size o qs ∧ Rise qs ∧ (∀ q, q ∈ qs ↔ q ∈ S) ∧ qs.length ≤ S.length ∧ (qs = [] → o = .slice none 0 0)
theorem PsI.below {w : World} {o : Value} {S : List ByteArray} {A B : World} (h : PsI w o S A) (hb : Below A.heap.size A B) : PsI w o S B := by
  obtain ⟨qs, h1, h2⟩ := h
  exact ⟨qs, h1.below hb, h2⟩
/-- what Paths answers -/
def PathsAns (w' : World) (B : Nat) (S : List ByteArray) (e : Ending) : Prop := ∃ u, e = .returned u ∧ OwnS w' B u (pathsS S)
theorem PsI.ans {w : World} {o : Value} {S : List ByteArray} {W : World} (h : PsI w o S W) : PathsAns W w.heap.size S (.returned o) := by
  obtain ⟨qs, h1, h2, h3, _⟩ := h
  exact ⟨o, rfl, by rw [pathsS_eq h2 h3]; exact h1⟩
/-- one more path is put -/
theorem psI_put {w : World} {o : Value} {S : List ByteArray} {W : World} (h : PsI w o S W) (hB : w.heap.size ≤ W.heap.size) (hl : S.length ≤ 1000) (p : ByteArray) (hz : ∀ q ∈ S, q.size ≤ 90000) (hp : p.size ≤ 90000) :
    Calls Tryz.prog 46 #[o, .string p] W fun e w' => (∃ u, e = .returned u ∧ PsI w u (S ++ [p]) w') ∧ Below W.heap.size W w' := by
  obtain ⟨qs, h1, h2, h3, h4, h5⟩ := h
  refine (refPutP_any W w.heap.size o qs p h1 hB (by omega) (fun q hq => hz q ((h3 q).1 hq)) hp h5).mono ?_
  rintro e w' ⟨⟨u, rs, rfl, g1, g2⟩, hb⟩
  exact ⟨⟨u, rfl, rs, g1, g2.1 h2, fun q => by rw [g2.2.1 q, h3 q, List.mem_append, List.mem_singleton, Or.comm], by rw [List.length_append]; have := g2.2.2.1; simp only [List.length_singleton]; omega, fun h => by have := g2.2.2.2; rw [h] at this; simp at this⟩, hb⟩
set_option maxRecDepth 100000 in
set_option maxHeartbeats 8000000 in
theorem refPathsP_any (w : World) (u1 u2 : Value) (l1 l2 : List MkE) (h1 : SlV w 6 eCM u1 l1) (h2 : SlV w 6 eCM u2 l2) (hn1 : l1.length ≤ 100) (hn2 : l2.length ≤ 100) (hz1 : ∀ m ∈ l1 ++ l2, m.1.size ≤ 90000)
    (v1 v2 : Value) (xs ys : List NE) (g1 : SlV w 5 eCSN v1 xs) (g2 : SlV w 5 eCSN v2 ys) (hm1 : xs.length ≤ 100) (hm2 : ys.length ≤ 100) (hz2 : ∀ m ∈ xs ++ ys, m.1.size ≤ 90000) :
    Calls Tryz.prog 18 #[.agg #[u1, u2], v1, v2] w fun e w' => PathsAns w' w.heap.size ((l1 ++ l2).map Prod.fst ++ (xs ++ ys).map Prod.fst) e ∧ Below w.heap.size w w' := by
  obtain ⟨W, hW⟩ : ∃ W, w.alloc (.cells #[u1, u2] 24) = W := ⟨_, rfl⟩
  have hb0 : Below w.heap.size w W := by rw [← hW]; exact (Below.refl _ w).alloc (Nat.le_refl _) _
  have hB0 : Blk W w.heap.size 24 #[u1, u2] := by rw [← hW]; exact Blk.new w _ _
  have HS := Lib.hid (And.intro (h1.below hb0 (Nat.le_refl _)) (h2.below hb0 (Nat.le_refl _)))
  have HI := Lib.hid (And.intro (And.intro (g1.below hb0 (Nat.le_refl _)) (g2.below hb0 (Nat.le_refl _))) (And.intro hz1 hz2))
  obtain ⟨A1, c1, rfl, hc1, hm1', _⟩ := h1
  obtain ⟨A2, c2, rfl, hc2, hm2', _⟩ := h2
  obtain ⟨A3, c3, rfl, _, _, _⟩ := g1
  obtain ⟨A4, c4, rfl, _, _, _⟩ := g2
  clear hz1 hz2
  obtain ⟨n2, hn2'⟩ : ∃ n, l2.length = n := ⟨_, rfl⟩
  obtain ⟨n1, hn1'⟩ : ∃ n, l1.length = n := ⟨_, rfl⟩
  obtain ⟨n4, hn4'⟩ : ∃ n, ys.length = n := ⟨_, rfl⟩
  obtain ⟨n3, hn3'⟩ : ∃ n, xs.length = n := ⟨_, rfl⟩
  rw [hn2'] at hB0 hW hc2 hn2 ⊢
  rw [hn1'] at hB0 hW hc1 hn1 ⊢
  rw [hn3'] at hm1 ⊢
  rw [hn4'] at hm2 ⊢
  unfold maxLen at hm1' hm2'
  have HL := Lib.hid (And.intro (And.intro hn1' hn2') (And.intro hn3' hn4'))
  rw [hn1', hn2'] at HS
  rw [hn3', hn4'] at HI
  clear hn1' hn2' hn3' hn4'
  obtain ⟨g, hg⟩ : ∃ g, w.heap.size = g := ⟨_, rfl⟩
  rw [hg] at hB0
  have HW := Lib.hid (And.intro hW (And.intro hb0 (And.intro hB0 hg))); clear hW hb0 hB0
  go_enter Tryz.func18, Tryz.ntmps18
  go_upto_region 1 with fail
  rw [HW.out.1]
  clear hg
  go_upto_region 2 with fail
  have k0 : ∀ m : Held (fun W => Blk W g 24 #[.slice A1 n1 c1, .slice A2 n2 c2]), (HeldW m).cell? ⟨g, 0, none⟩ = some (.slice A1 n1 c1) := fun m => (HeldW_spec m).cell 0
  have k1 : ∀ m : Held (fun W => Blk W g 24 #[.slice A1 n1 c1, .slice A2 n2 c2]), (HeldW m).cell? ⟨g, 1, none⟩ = some (.slice A2 n2 c2) := fun m => (HeldW_spec m).cell 1
  have HC0 := Lib.hid HW.out.2.2.1.drew
  refine wp_region_mix (fun W => Blk W g 24 #[.slice A1 n1 c1, .slice A2 n2 c2]) [(1, true), (2, true), (4, true), (5, true), (8, true), (0, false), (3, false), (6, false), (7, true)] (by kernel_rfl) (by kernel_rfl) ?_
  simp only [pickP, List.filterMap_cons, List.filterMap_nil, List.getElem?_toArray, List.getElem?_cons_succ, List.getElem?_cons_zero, Option.map_some]
  repeat (apply mix_first; apply Exists.intro; refine ⟨fun m => ?_, HC0.out, ?_⟩; · (go_big_quiet_step (fail); exact wpQuiet_nil rfl))
  refine mix_forced HC0.out ?_
  go_wp2_with fail
  show mixC _ _ _ _ _ _ _
  have hs0 := HW.out.2.1.size
  rw [HW.out.2.2.2] at hs0
  have hbE : Below W.heap.size W (W.alloc (.cells #[] 91)).drew := ((Below.refl _ W).alloc (Nat.le_refl _) _).drew
  have hoE : (W.alloc (.cells #[] 91)).drew.ownsRow W.heap.size 91 6 (.slice (some ⟨W.heap.size, 0, none⟩) 0 0) 0 [] := own_emptyB W W.heap.size _ 6 (Nat.le_refl _)
  have HE := Lib.hid (And.intro hbE (And.intro hoE (And.intro (HW.out.2.2.1.below hbE HW.out.2.2.1.lt) (And.intro (HS.out.1.below hbE (Nat.le_refl _)) (HS.out.2.below hbE (Nat.le_refl _))))))
  clear hbE hoE HC0
  generalize (W.alloc (.cells #[] 91)).drew = W1 at *
  refine mix_forced HE.out.2.2.1 ?_
  go_wp2_with (at_builtin; refine wpList_app_slv rfl _ _ 22 rfl W.heap.size 91 (.agg #[.string ⟨#[]⟩, .int .i64 0, .int .i64 0, .int .u32 0, .int .i64 0, .int .u32 0]) 6 56 Tryz.underlying22 infoMk rfl (by decide) _ 0 _ rfl HE.out.2.1 eCM eCM_len eCM_one _ l1 rfl HE.out.2.2.2.1 (by have := HL.out.1.1; omega) (by decide) HE.out.1.size ?_; intro v5 w5 ho5 hg5)
  show mixC _ _ _ _ _ _ _
  obtain ⟨A5, k5, rfl, _, _, _⟩ := SlV_of_any ho5
  have hb5 := HE.out.1.grown hg5 HE.out.1.size (fun q hq => (HE.out.2.1.lt q hq).1)
  have H5 := Lib.hid (And.intro hb5 (And.intro ho5 (And.intro (HW.out.2.2.1.below hb5 HW.out.2.2.1.lt) (HS.out.2.below hb5 (Nat.le_refl _))))); clear ho5 hg5 hb5 HE
  refine mix_forced H5.out.2.2.1 ?_
  go_wp2_with (at_builtin; refine wpList_app_slv rfl _ _ 22 rfl W.heap.size 91 (.agg #[.string ⟨#[]⟩, .int .i64 0, .int .i64 0, .int .u32 0, .int .i64 0, .int .u32 0]) 6 56 Tryz.underlying22 infoMk rfl (by decide) _ (0 + l1.length) _ rfl H5.out.2.1 eCM eCM_len eCM_one _ l2 rfl H5.out.2.2.2 (by have := HL.out.1; omega) (by decide) H5.out.1.size ?_; intro v6 w6 ho6 hg6)
  show mixC _ _ _ _ _ _ _
  have hb6 := H5.out.1.grown hg6 H5.out.1.size (fun q hq => (H5.out.2.1.lt q hq).1)
  have ho6' : w6.ownsRow W.heap.size 91 6 v6 (l1 ++ l2).length ((l1 ++ l2).flatMap eCM) := by
    rw [List.length_append, List.flatMap_append]
    rw [List.nil_append, Nat.zero_add] at ho6
    exact ho6
  have hsl6 : SlV w6 6 eCM v6 (l1 ++ l2) := SlV.of_own ho6' eCM_len (by decide)
  have hll : (l1 ++ l2).length = n1 + n2 := by rw [List.length_append, HL.out.1.1, HL.out.1.2]
  rw [hll] at ho6'
  obtain ⟨A6, k6, rfl, _, _, _⟩ := SlV_of_any ho6'
  have H6 := Lib.hid (And.intro hb6 (And.intro (HW.out.2.2.1.below hb6 HW.out.2.2.1.lt) hsl6)); clear ho6 hg6 hb6 H5 ho6' hsl6
  obtain ⟨L, hLe⟩ : ∃ L, l1 ++ l2 = L := ⟨_, rfl⟩
  rw [hLe] at hll H6 HI
  have HLE := Lib.hid hLe; clear hLe
  obtain ⟨n, hnn⟩ : ∃ n, n1 + n2 = n := ⟨_, rfl⟩
  rw [hnn] at hll
  have hn60 : n ≤ 200 := by omega
  have HN := Lib.hid hll
  rw [hnn] at H6 ⊢
  clear hll hnn
  repeat (apply mix_first; apply Exists.intro; refine ⟨fun m => ?_, H6.out.2.1, ?_⟩; · (go_big_quiet_step (fail); exact wpQuiet_nil rfl))
  refine mix_nil H6.out.2.1 ?_
  clear k0 k1
  go_wp2_with fail
  go_loopw [7, 20] (fun o iv wr => ∃ i : Nat, i ≤ n ∧ iv = .int .i64 i ∧ Below W.heap.size W wr ∧ Below w6.heap.size w6 wr ∧ PsI w o ((L.take i).map Prod.fst) wr) (fun _ iv _ => n - (intOf iv).toNat)
  case atStart => exact ⟨0, Nat.zero_le _, rfl, H6.out.1, Below.refl _ _, [], World.ownsRow_nil _ _ _ _, List.Pairwise.nil, fun q => by simp, by simp, fun _ => rfl⟩
  case round =>
    obtain ⟨i, hi, rfl, hb, hb6, hP⟩ := hrel
    have hslr := H6.out.2.2.below hb6 (Nat.le_refl _)
    have hww := Nat.le_trans HW.out.2.1.size hb.size
    by_cases hlt : i < n
    · have hiL : i < L.length := by have := HN.out; omega
      obtain ⟨A', c', hA, _, _, hso⟩ := hslr
      obtain ⟨rfl, -, rfl⟩ : A6 = A' ∧ n = L.length ∧ k6 = c' := by simpa using hA
      clear hA
      obtain ⟨b, off, rfl, hbb, hcs⟩ := hso (by omega)
      have c0 := hcs i hiL 0 (by omega)
      have c1 := hcs i hiL 1 (by omega)
      have c2 := hcs i hiL 2 (by omega)
      have c3' := hcs i hiL 3 (by omega)
      have c4 := hcs i hiL 4 (by omega)
      have c5 := hcs i hiL 5 (by omega)
      simp only [eCM, List.getElem?_cons_succ, List.getElem?_cons_zero, Nat.add_zero] at c0 c1 c2 c3' c4 c5
      clear hcs hso hbb
      have hi1 : (i : Int) < n := by omega
      have hqz := HI.out.2.1 _ (List.getElem_mem hiL)
      have hst : (L.take (i + 1)).map Prod.fst = (L.take i).map Prod.fst ++ [L[i].1] := by rw [List.take_succ_eq_append_getElem hiL, List.map_append]; rfl
      obtain ⟨⟨q, ⟨kd, md, tm, sz, sm⟩⟩, hx⟩ : ∃ x, L[i] = x := ⟨_, rfl⟩
      simp only [hx] at c0 c1 c2 c3' c4 c5 hqz hst
      clear hx
      have hba := (Below.refl wr.heap.size wr).alloc (Nat.le_refl _) (.cells #[.string q, .int .i64 kd, .int .i64 md, .int .u32 tm, .int .i64 sz, .int .u32 sm] 91)
      have HPU := Lib.hid (psI_put (hP.below hba) (by simp; omega) (by rw [List.length_map, List.length_take]; omega) q (fun x hx => by
        obtain ⟨m, hm, rfl⟩ := List.mem_map.1 hx
        exact HI.out.2.1 m (List.mem_of_mem_take hm)) hqz)
      have H1 := Lib.hid (And.intro (hb.trans (hba.mono hb.size)) (hb6.trans (hba.mono hb6.size)))
      have HST := Lib.hid hst
      clear hb hb6 hba hP hst hqz
      go_wp2_with fail
      refine HPU.out.mono ?_
      rintro e w7 ⟨⟨u, rfl, hP7⟩, hb7⟩
      rw [← HST.out] at hP7
      have H7 := Lib.hid (And.intro (H1.out.1.trans (hb7.mono H1.out.1.size)) (And.intro (H1.out.2.trans (hb7.mono H1.out.2.size)) hP7)); clear hb7 hP7 HPU H1
      go_wp2_with fail
      go_roundw
      case rel => exact ⟨i + 1, by omega, by go_num, H7.out.1, H7.out.2.1, H7.out.2.2⟩
      case measure => simp [intOf]; omega
    · obtain rfl : i = n := by omega
      have hf : L.take i = L := List.take_of_length_le (by have := HN.out; omega)
      rw [hf] at hP
      have H8 := Lib.hid (And.intro hb hP)
      have hsI1 := HI.out.1.1.below hb (Nat.le_refl _)
      have hsI2 := HI.out.1.2.below hb (Nat.le_refl _)
      have HI2 := Lib.hid (And.intro hsI1 hsI2)
      clear hf hb hb6 hP hslr hsI1 hsI2 H6
      generalize wr = w8 at *
      have hmm : n3 + ys.length = (xs ++ ys).length := by rw [List.length_append, HL.out.2.1]
      have hmf : xs.flatMap eCSN ++ ys.flatMap eCSN = (xs ++ ys).flatMap eCSN := by rw [List.flatMap_append]
      have hml : (xs ++ ys).length ≤ 200 := by rw [List.length_append, HL.out.2.1, HL.out.2.2]; omega
      obtain ⟨M, hMe⟩ : ∃ M, xs ++ ys = M := ⟨_, rfl⟩
      rw [hMe] at hmm hmf hml HI
      have HME := Lib.hid hMe; clear hMe
      obtain ⟨m, hm⟩ : ∃ m, M.length = m := ⟨_, rfl⟩
      rw [hm] at hmm hml
      have HMM := Lib.hid (And.intro hmm (And.intro hmf hm)); clear hmm hmf hm
      go_wp2_with (first | (at_builtin; refine wpList_app_slv rfl _ _ 25 rfl w8.heap.size 53 (.agg #[.string ⟨#[]⟩, .int .i64 0, .int .i64 0, .int .u32 0, .string ⟨#[]⟩]) 5 56 Tryz.underlying25 infoIt rfl (by decide) _ 0 _ rfl (own_emptyB w8 w8.heap.size _ 5 (Nat.le_refl _)) eCSN eCSN_len eCSN_one _ xs rfl (HI2.out.1.below ((Below.refl _ w8).alloc (Nat.le_refl _) _) (Nat.le_refl _)) (by have := HL.out.2.1; omega) (by decide) (by simp) ?_; intro v9 w9 ho9 hg9; rw [Nat.zero_add, List.nil_append, HL.out.2.1] at ho9; have hb9 : Below w8.heap.size w8 w9 := ((Below.refl _ w8).alloc (Nat.le_refl _) _).grown hg9 (by simp) (fun q hq => by cases hq; exact Nat.le_refl _); obtain ⟨A9, k9, rfl, _, _, _⟩ := SlV_of_any ho9; have hz9 := hb9.size; have H9 := Lib.hid (And.intro hb9 (And.intro ho9 (HI2.out.2.below hb9 (Nat.le_refl _)))); clear ho9 hg9 hb9) | (at_builtin; refine wpList_app_slv rfl _ _ 25 rfl w8.heap.size 53 (.agg #[.string ⟨#[]⟩, .int .i64 0, .int .i64 0, .int .u32 0, .string ⟨#[]⟩]) 5 56 Tryz.underlying25 infoIt rfl (by decide) (.slice A9 n3 k9) n3 _ rfl H9.out.2.1 eCSN eCSN_len eCSN_one _ ys rfl H9.out.2.2 (by have := HL.out.2; omega) (by decide) hz9 ?_; intro v10 w10 ho10 hg10; rw [HMM.out.1, HMM.out.2.1] at ho10; have hb10 := H9.out.1.grown hg10 hz9 (fun q hq => (H9.out.2.1.lt q hq).1); obtain ⟨A10, k10, rfl, _, _, _⟩ := SlV_of_any ho10; have H10 := Lib.hid (And.intro hb10 ho10); clear ho10 hg10 hb10 H9))
      have hsl10 : SlV w10 5 eCSN (.slice A10 m k10) M := SlV.of_own H10.out.2 eCSN_len (by decide)
      have hbW10 := H8.out.1.trans (H10.out.1.mono H8.out.1.size)
      have H11 := Lib.hid (And.intro hbW10 (And.intro (H8.out.2.below H10.out.1) hsl10)); clear hsl10 hbW10 H10
      go_loopw [7, 35] (fun o iv wr => ∃ j : Nat, j ≤ m ∧ iv = .int .i64 j ∧ Below W.heap.size W wr ∧ Below w10.heap.size w10 wr ∧ PsI w o (L.map Prod.fst ++ (M.take j).map Prod.fst) wr) (fun _ iv _ => m - (intOf iv).toNat)
      case atStart => exact ⟨0, Nat.zero_le _, rfl, H11.out.1, Below.refl _ _, by have := H11.out.2.1; simpa using this⟩
      case round =>
        obtain ⟨j, hj, rfl, hb, hb10, hP⟩ := hrel
        have hslr := H11.out.2.2.below hb10 (Nat.le_refl _)
        have hww2 := Nat.le_trans HW.out.2.1.size hb.size
        by_cases hlt2 : j < m
        · have hjM : j < M.length := by have := HMM.out.2.2; omega
          obtain ⟨A', c', hA, _, _, hso⟩ := hslr
          obtain ⟨rfl, -, rfl⟩ : A10 = A' ∧ m = M.length ∧ k10 = c' := by simpa using hA
          clear hA
          obtain ⟨b, off, rfl, hbb, hcs⟩ := hso (by omega)
          have c0 := hcs j hjM 0 (by omega)
          have c1 := hcs j hjM 1 (by omega)
          have c2 := hcs j hjM 2 (by omega)
          have c3' := hcs j hjM 3 (by omega)
          have c4 := hcs j hjM 4 (by omega)
          simp only [eCSN, List.getElem?_cons_succ, List.getElem?_cons_zero, Nat.add_zero] at c0 c1 c2 c3' c4
          clear hcs hso hbb
          have hj1 : (j : Int) < m := by omega
          have hqz := HI.out.2.2 _ (List.getElem_mem hjM)
          have hst : L.map Prod.fst ++ (M.take (j + 1)).map Prod.fst = L.map Prod.fst ++ (M.take j).map Prod.fst ++ [M[j].1] := by rw [List.take_succ_eq_append_getElem hjM, List.map_append, List.append_assoc]; rfl
          obtain ⟨⟨q, ⟨kd, md, tm, dt⟩⟩, hx⟩ : ∃ x, M[j] = x := ⟨_, rfl⟩
          simp only [hx] at c0 c1 c2 c3' c4 hqz hst
          clear hx
          have hba := (Below.refl wr.heap.size wr).alloc (Nat.le_refl _) (.cells #[.string q, .int .i64 kd, .int .i64 md, .int .u32 tm, .string dt] 53)
          have HPU := Lib.hid (psI_put (hP.below hba) (by simp; omega) (by rw [List.length_append, List.length_map, List.length_map, List.length_take]; have := HN.out; omega) q (fun x hx => by
            rcases List.mem_append.1 hx with hx | hx
            · obtain ⟨m, hm, rfl⟩ := List.mem_map.1 hx
              exact HI.out.2.1 m hm
            · obtain ⟨m, hm, rfl⟩ := List.mem_map.1 hx
              exact HI.out.2.2 m (List.mem_of_mem_take hm)) hqz)
          have H1 := Lib.hid (And.intro (hb.trans (hba.mono hb.size)) (hb10.trans (hba.mono hb10.size)))
          have HST := Lib.hid hst
          clear hb hb10 hba hP hst hqz
          go_wp2_with fail
          refine HPU.out.mono ?_
          rintro e w7 ⟨⟨u, rfl, hP7⟩, hb7⟩
          rw [← HST.out] at hP7
          have H7 := Lib.hid (And.intro (H1.out.1.trans (hb7.mono H1.out.1.size)) (And.intro (H1.out.2.trans (hb7.mono H1.out.2.size)) hP7)); clear hb7 hP7 HPU H1
          go_wp2_with fail
          go_roundw
          case rel => exact ⟨j + 1, by omega, by go_num, H7.out.1, H7.out.2.1, H7.out.2.2⟩
          case measure => simp [intOf]; omega
        · obtain rfl : j = m := by omega
          have hf : M.take j = M := List.take_of_length_le (by have := HMM.out.2.2; omega)
          rw [hf] at hP
          have HF := Lib.hid (And.intro hP (HW.out.2.1.trans (hb.mono HW.out.2.1.size)))
          clear hf hP hb hb10 hslr
          go_wp2_with fail
          go_ret
          exact ⟨by rw [HLE.out, HME.out]; exact HF.out.1.ans, HF.out.2⟩
end Go.Proofs.YteofiffbobbdmaaGreatDoor
/- The reference's Find in a Base. -/
set_option linter.unusedVariables false
set_option linter.unusedSimpArgs false
namespace Sw
open Go
theorem findM_app (l1 l2 : List MkE) (p : ByteArray) : findM (l1 ++ l2) p = if (findM l1 p).isSome = true then findM l1 p else findM l2 p := by
  unfold findM
  rw [List.find?_append]
  cases h : l1.find? (fun m => decide (m.1 = p)) with
  | none => simp
  | some x => simp
end Sw
namespace Go.Proofs.YteofiffbobbdmaaGreatDoor
open Go Go.RowKit
open Sw
set_option maxRecDepth 100000 in
set_option maxHeartbeats 8000000 in
theorem refFindM_any (w : World) (u1 u2 : Value) (l1 l2 : List MkE) (p : ByteArray) (h1 : SlV w 6 eCM u1 l1) (h2 : SlV w 6 eCM u2 l2) (hl1 : l1.length ≤ 100000) (hl2 : l2.length ≤ 100000) :
    Calls Tryz.prog 34 #[.agg #[u1, u2], .string p] w fun e w' => e = .returned (.tuple #[.agg ((findM (l1 ++ l2) p).getD ⟨0, 0, 0, 0, 0⟩).c, .bool (findM (l1 ++ l2) p).isSome]) ∧ Below w.heap.size w w' := by
  obtain ⟨W0, hW0⟩ : ∃ W0, (w.alloc (.cells #[u1, u2] 24)).alloc (.cells #[.int .i64 0, .int .i64 0, .int .u32 0, .int .i64 0, .int .u32 0] 75) = W0 := ⟨_, rfl⟩
  have hb2 : Below w.heap.size w W0 := by rw [← hW0]; exact ((Below.refl _ w).alloc (Nat.le_refl _) _).alloc (by simp) _
  have hR0 : Blk W0 (w.heap.size + 1) 75 #[.int .i64 0, .int .i64 0, .int .u32 0, .int .i64 0, .int .u32 0] := by rw [← hW0]; exact blk_snd _ _ _ _
  have hB0 : Blk W0 w.heap.size 24 #[u1, u2] := by rw [← hW0]; exact blk_fst _ _ _ _
  have HG1 := Lib.hid (refGet26_any W0 u1 l1 p (h1.below hb2 (Nat.le_refl _)) (by omega))
  have HS2 := Lib.hid h2
  have HB := Lib.hid (And.intro hb2 (And.intro hR0 hB0))
  have HW0 := Lib.hid hW0
  have q0 := hB0.cell 0
  simp at q0
  obtain ⟨A1, k1, rfl, _, _, _⟩ := h1
  obtain ⟨A2, k2, rfl, _, _, _⟩ := h2
  have HF := Lib.hid (findM_app l1 l2 p)
  generalize findM (l1 ++ l2) p = ff at *
  obtain ⟨f1, hf1⟩ : ∃ f, findM l1 p = f := ⟨_, rfl⟩
  rw [hf1] at HG1 HF
  clear hb2 hR0 hW0 hB0 hl1 hf1
  generalize l1.length = n1 at *
  obtain ⟨n2, hn2⟩ : ∃ n, l2.length = n := ⟨_, rfl⟩
  rw [hn2] at HB HS2 HW0 ⊢
  have HN2 := Lib.hid hn2; clear hn2
  obtain ⟨⟨pk, pm, pt, ps, pu⟩, hpp⟩ : ∃ x, f1.getD ⟨0, 0, 0, 0, 0⟩ = x := ⟨_, rfl⟩
  obtain ⟨bb, hbb⟩ : ∃ b, f1.isSome = b := ⟨_, rfl⟩
  rw [hpp, hbb] at HG1
  simp only [Pr.c] at HG1
  rw [hbb] at HF
  have HPP := Lib.hid (And.intro hpp hbb); clear hpp hbb
  go_enter Tryz.func34, Tryz.ntmps34
  go_upto_region 1 with fail
  rw [HW0.out]
  go_wp2_with fail
  refine HG1.out.mono ?_
  rintro e w1 ⟨rfl, hb1⟩
  have hba : Below w1.heap.size w1 (w1.alloc (.cells #[.int .i64 pk, .int .i64 pm, .int .u32 pt, .int .i64 ps, .int .u32 pu] 75)) := (Below.refl _ w1).alloc (Nat.le_refl _) _
  have hb3 := hb1.trans (hba.mono hb1.size)
  have H1 := Lib.hid (And.intro (HB.out.1.trans (hb3.mono HB.out.1.size)) (And.intro (HB.out.2.1.below hb3 HB.out.2.1.lt) (HB.out.2.2.below hb3 HB.out.2.2.lt)))
  clear hb1 hba hb3 HG1 q0
  cases bb with
  | true =>
    have x0 := H1.out.2.1.cell 0
    have x1 := H1.out.2.1.cell 1
    have x2 := H1.out.2.1.cell 2
    have x3 := H1.out.2.1.cell 3
    have x4 := H1.out.2.1.cell 4
    simp at x0 x1 x2 x3 x4
    have f0 := H1.out.2.1.frozen 0
    have f1 := H1.out.2.1.frozen 1
    have f2 := H1.out.2.1.frozen 2
    have f3 := H1.out.2.1.frozen 3
    have f4 := H1.out.2.1.frozen 4
    go_wp2_with fail
    refine bodyPost_ret (res_blk_tmp rfl _ _ (w.heap.size + 1) 75 #[.int .i64 pk, .int .i64 pm, .int .u32 pt, .int .i64 ps, .int .u32 pu] _ rfl (((((H1.out.2.1.put 0 (.int .i64 pk)).put 1 (.int .i64 pm)).put 2 (.int .u32 pt)).put 3 (.int .i64 ps)).put 4 (.int .u32 pu)) Tryz.underlying75 rfl (by kernel_rfl)) rfl ⟨?_, ?_⟩
    · have h1 := HF.out
      rw [if_pos trivial] at h1
      rw [h1, HPP.out.1, HPP.out.2]
      rfl
    · exact ((((H1.out.1.setCell (p := ⟨w.heap.size + 1, 0, none⟩) (Nat.le_succ _) (.int .i64 pk)).setCell (p := ⟨w.heap.size + 1, 1, none⟩) (Nat.le_succ _) (.int .i64 pm)).setCell (p := ⟨w.heap.size + 1, 2, none⟩) (Nat.le_succ _) (.int .u32 pt)).setCell (p := ⟨w.heap.size + 1, 3, none⟩) (Nat.le_succ _) (.int .i64 ps)).setCell (p := ⟨w.heap.size + 1, 4, none⟩) (Nat.le_succ _) (.int .u32 pu)
  | false =>
    have q1 := H1.out.2.2.cell 1
    simp at q1
    have HG2 := Lib.hid (refGet26_any _ (.slice A2 n2 k2) l2 p (HS2.out.below H1.out.1 (Nat.le_refl _)) (by have := HN2.out; omega))
    obtain ⟨f2, hf2⟩ : ∃ f, findM l2 p = f := ⟨_, rfl⟩
    rw [hf2] at HG2 HF
    clear hf2
    obtain ⟨⟨qk, qm, qt, qs, qu⟩, hqq⟩ : ∃ x, f2.getD ⟨0, 0, 0, 0, 0⟩ = x := ⟨_, rfl⟩
    obtain ⟨b2, hb2⟩ : ∃ b, f2.isSome = b := ⟨_, rfl⟩
    rw [hqq, hb2] at HG2
    simp only [Pr.c] at HG2
    have HQQ := Lib.hid (And.intro hqq hb2); clear hqq hb2
    go_wp2_with fail
    refine HG2.out.mono ?_
    rintro e w3 ⟨rfl, hb3⟩
    have H3 := Lib.hid (And.intro (H1.out.1.trans (hb3.mono H1.out.1.size)) (H1.out.2.1.below hb3 H1.out.2.1.lt))
    clear hb3 q1 HG2
    have x0 := H3.out.2.cell 0
    have x1 := H3.out.2.cell 1
    have x2 := H3.out.2.cell 2
    have x3 := H3.out.2.cell 3
    have x4 := H3.out.2.cell 4
    simp at x0 x1 x2 x3 x4
    have g0 := H3.out.2.frozen 0
    have g1 := H3.out.2.frozen 1
    have g2 := H3.out.2.frozen 2
    have g3 := H3.out.2.frozen 3
    have g4 := H3.out.2.frozen 4
    go_wp2_with fail
    refine bodyPost_ret (res_blk_tmp rfl _ _ (w.heap.size + 1) 75 #[.int .i64 qk, .int .i64 qm, .int .u32 qt, .int .i64 qs, .int .u32 qu] _ rfl (((((H3.out.2.put 0 (.int .i64 qk)).put 1 (.int .i64 qm)).put 2 (.int .u32 qt)).put 3 (.int .i64 qs)).put 4 (.int .u32 qu)) Tryz.underlying75 rfl (by kernel_rfl)) rfl ⟨?_, ?_⟩
    · have h1 := HF.out
      rw [if_neg (by decide)] at h1
      rw [h1, HQQ.out.1, HQQ.out.2]
      rfl
    · exact ((((H3.out.1.setCell (p := ⟨w.heap.size + 1, 0, none⟩) (Nat.le_succ _) (.int .i64 qk)).setCell (p := ⟨w.heap.size + 1, 1, none⟩) (Nat.le_succ _) (.int .i64 qm)).setCell (p := ⟨w.heap.size + 1, 2, none⟩) (Nat.le_succ _) (.int .u32 qt)).setCell (p := ⟨w.heap.size + 1, 3, none⟩) (Nat.le_succ _) (.int .i64 qs)).setCell (p := ⟨w.heap.size + 1, 4, none⟩) (Nat.le_succ _) (.int .u32 qu)
end Go.Proofs.YteofiffbobbdmaaGreatDoor
/- slices.SortStableFunc at rows of api.Mark: two stretches side by side change places. -/
set_option linter.unusedVariables false
set_option linter.unusedSimpArgs false
namespace Go.Proofs.YteofiffbobbdmaaGreatDoor
open Go Go.RowKit
open Sw
set_option maxRecDepth 100000 in
set_option maxHeartbeats 4000000 in
theorem rotateMK_any (w : World) (base : Nat) (A : Option Addr) (c : Nat) (cv : Value) (n a m b : Nat) (P U V Q : List ({ s : ByteArray // s.size ≤ 90000 } × Pr)) (hn : n ≤ 1000000) (hlen : (P ++ U ++ V ++ Q).length = n) (hP : P.length = a) (hU : a + U.length = m) (hV : m + V.length = b) (hU0 : 0 < U.length) (hV0 : 0 < V.length)
    (hown : w.ownsRow base 91 6 (.slice A n c) n ((P ++ U ++ V ++ Q).flatMap eCMK)) :
    Calls Tryz.prog 175 #[.slice A n c, .int .i64 a, .int .i64 m, .int .i64 b, cv] w fun e w' => e = .returned (.tuple #[]) ∧ w'.ownsRow base 91 6 (.slice A n c) n ((P ++ V ++ U ++ Q).flatMap eCMK) ∧ w.grownBy w' (Value.slice A n c).ownBlock := by
  have hlen' : P.length + U.length + V.length + Q.length = n := by rw [← hlen]; simp only [List.length_append]
  obtain ⟨T, hT⟩ : ∃ T, P ++ V ++ U ++ Q = T := ⟨_, rfl⟩
  have HT := Lib.hid hT
  have HO := Lib.hid (And.intro hown hlen)
  rw [hT]
  clear hT hown hlen
  have w1 : IntKind.i64.wrap ((m : Int) - a) = m - a := IntWalk.i64_in _ (by omega)
  have w2 : IntKind.i64.wrap ((b : Int) - m) = b - m := IntWalk.i64_in _ (by omega)
  go_enter Tryz.func175, Tryz.ntmps175
  go_wp2_with fail
  go_loopw [10, 11] (fun iv jv wr => ∃ (i j : Nat) (P' U' V' Q' : List ({ s : ByteArray // s.size ≤ 90000 } × Pr)), iv = .int .i64 i ∧ jv = .int .i64 j ∧ 0 < i ∧ 0 < j ∧ U'.length = i ∧ V'.length = j ∧ P'.length + i = m ∧ P' ++ V' ++ U' ++ Q' = T ∧ (P' ++ U' ++ V' ++ Q').length = n ∧ wr.ownsRow base 91 6 (.slice A n c) n ((P' ++ U' ++ V' ++ Q').flatMap eCMK) ∧ w.grownBy wr (Value.slice A n c).ownBlock) (fun iv jv _ => (intOf iv + intOf jv).toNat)
  case atStart => exact ⟨U.length, V.length, P, U, V, Q, by go_num, by go_num, hU0, hV0, rfl, rfl, by omega, HT.out, HO.out.2, HO.out.1, grown_refl _ _⟩
  case round =>
    obtain ⟨i, j, P', U', V', Q', rfl, rfl, hi0, hj0, hU', hV', hPi, hTT, hln, hrow, hg⟩ := hrel
    have hln' : P'.length + i + j + Q'.length = n := by rw [← hln, ← hU', ← hV']; simp only [List.length_append]
    have HG := Lib.hid (And.intro hTT (And.intro hln (And.intro hrow hg))); clear hTT hln hrow hg HO
    have p1 : (m : Int) - i = ((m - i : Nat) : Int) := by omega
    have p2 : (m : Int) + j - i = ((m + j - i : Nat) : Int) := by omega
    rcases Nat.lt_trichotomy i j with h | h | h
    · have hne : ((i : Int) != j) = true := by rw [bne_iff_ne]; omega
      have hgt : ¬ (j : Int) < i := by omega
      have w3 : IntKind.i64.wrap ((j : Int) - i) = ((j - i : Nat) : Int) := by rw [IntWalk.i64_in _ (by omega)]; omega
      have w4 : IntKind.i64.wrap (((m - i : Nat) : Int)) = ((m - i : Nat) : Int) := IntWalk.i64_in _ (by omega)
      have w5 : IntKind.i64.wrap ((m : Int) + j) = m + j := IntWalk.i64_in _ (by omega)
      have w6 : IntKind.i64.wrap (((m + j - i : Nat) : Int)) = ((m + j - i : Nat) : Int) := IntWalk.i64_in _ (by omega)
      have hsp : V' = V'.take (j - i) ++ V'.drop (j - i) := (List.take_append_drop _ _).symm
      have hse := swL_end P' U' (V'.take (j - i)) (V'.drop (j - i)) Q' (by rw [List.length_drop]; omega)
      have hl1 : (V'.take (j - i)).length = j - i := by rw [List.length_take]; omega
      have e1 : P' ++ U' ++ V'.take (j - i) ++ V'.drop (j - i) ++ Q' = P' ++ U' ++ V' ++ Q' := by
        conv => rhs; rw [hsp]
        simp only [List.append_assoc]
      rw [e1, hU', hl1, show P'.length + i + (j - i) = m + j - i by omega, show P'.length = m - i by omega] at hse
      have HS := Lib.hid (swapRangeMK_any wr base (.slice A n c) cv n (m - i) (m + j - i) i _ HG.out.2.1 hn (by omega) (by omega) HG.out.2.2.1)
      rw [hse] at HS
      have hT2 : P' ++ V'.take (j - i) ++ V'.drop (j - i) ++ (U' ++ Q') = T := by
        rw [← HG.out.1]
        conv => rhs; rw [hsp]
        simp only [List.append_assoc]
      have hl2 : (P' ++ V'.drop (j - i) ++ V'.take (j - i) ++ (U' ++ Q')).length = n := by simp only [List.length_append, List.length_drop, hl1]; omega
      have e2 : P' ++ V'.drop (j - i) ++ V'.take (j - i) ++ U' ++ Q' = P' ++ V'.drop (j - i) ++ V'.take (j - i) ++ (U' ++ Q') := by simp only [List.append_assoc]
      rw [e2] at HS
      have hl3 : (V'.drop (j - i)).length = i := by rw [List.length_drop]; omega
      have HX := Lib.hid (And.intro hT2 (And.intro hl2 (And.intro hl1 hl3))); clear hT2 hl2 hl1 hl3 e1 e2 hse hsp
      go_wp2_with fail
      refine HS.out.mono ?_
      rintro e w3' ⟨rfl, hrow2, hg2⟩
      have H3 := Lib.hid (And.intro hrow2 (grown_trans HG.out.2.2.2 hg2)); clear hrow2 hg2 HS
      go_wp2_with fail
      go_roundw
      case rel => exact ⟨i, j - i, P', V'.drop (j - i), V'.take (j - i), U' ++ Q', rfl, by go_num, hi0, by omega, HX.out.2.2.2, HX.out.2.2.1, by omega, HX.out.1, HX.out.2.1, H3.out.1, H3.out.2⟩
      case measure => simp [intOf]; omega
    · subst h
      have hne : ((i : Int) != i) = false := by simp
      have w4 : IntKind.i64.wrap (((m - i : Nat) : Int)) = ((m - i : Nat) : Int) := IntWalk.i64_in _ (by omega)
      have hse := swL_end P' U' [] V' Q' (by omega)
      rw [hU', List.length_nil, Nat.add_zero, show P'.length + i = m from hPi, show P'.length = m - i by omega, List.append_nil, List.append_nil] at hse
      have HS := Lib.hid (swapRangeMK_any wr base (.slice A n c) cv n (m - i) m i _ HG.out.2.1 hn (by omega) (by omega) HG.out.2.2.1)
      rw [hse, HG.out.1] at HS
      clear hse
      go_wp2_with fail
      refine HS.out.mono ?_
      rintro e w3' ⟨rfl, hrow2, hg2⟩
      have H3 := Lib.hid (And.intro hrow2 (grown_trans HG.out.2.2.2 hg2)); clear hrow2 hg2 HS
      go_wp2_with fail
      go_end0
      exact ⟨rfl, H3.out.1, H3.out.2⟩
    · have hne : ((i : Int) != j) = true := by rw [bne_iff_ne]; omega
      have hgt : (j : Int) < i := by omega
      have w3 : IntKind.i64.wrap ((i : Int) - j) = ((i - j : Nat) : Int) := by rw [IntWalk.i64_in _ (by omega)]; omega
      have w4 : IntKind.i64.wrap (((m - i : Nat) : Int)) = ((m - i : Nat) : Int) := IntWalk.i64_in _ (by omega)
      have hsp : U' = U'.take j ++ U'.drop j := (List.take_append_drop _ _).symm
      have hl1 : (U'.take j).length = j := by rw [List.length_take]; omega
      have hl3 : (U'.drop j).length = i - j := by rw [List.length_drop]; omega
      have hse := swL_end P' (U'.take j) (U'.drop j) V' Q' (by omega)
      have e1 : P' ++ U'.take j ++ U'.drop j ++ V' ++ Q' = P' ++ U' ++ V' ++ Q' := by
        conv => rhs; rw [hsp]
        simp only [List.append_assoc]
      rw [e1, hl1, hl3, show P'.length + j + (i - j) = m by omega, show P'.length = m - i by omega] at hse
      have HS := Lib.hid (swapRangeMK_any wr base (.slice A n c) cv n (m - i) m j _ HG.out.2.1 hn (by omega) (by omega) HG.out.2.2.1)
      rw [hse] at HS
      have hT2 : P' ++ V' ++ U'.take j ++ U'.drop j ++ Q' = T := by
        rw [← HG.out.1]
        conv => rhs; rw [hsp]
        simp only [List.append_assoc]
      have hl2 : (P' ++ V' ++ U'.drop j ++ U'.take j ++ Q').length = n := by simp only [List.length_append, hl1, hl3]; omega
      have HX := Lib.hid (And.intro hT2 (And.intro hl2 (And.intro hl1 hl3))); clear hT2 hl2 hl1 hl3 e1 hse hsp
      go_wp2_with fail
      refine HS.out.mono ?_
      rintro e w3' ⟨rfl, hrow2, hg2⟩
      have H3 := Lib.hid (And.intro hrow2 (grown_trans HG.out.2.2.2 hg2)); clear hrow2 hg2 HS
      go_wp2_with fail
      go_roundw
      case rel => exact ⟨i - j, j, P' ++ V', U'.drop j, U'.take j, Q', by go_num, rfl, by omega, hj0, HX.out.2.2.2, HX.out.2.2.1, by rw [List.length_append]; omega, HX.out.1, HX.out.2.1, H3.out.1, H3.out.2⟩
      case measure => simp [intOf]; omega
end Go.Proofs.YteofiffbobbdmaaGreatDoor
