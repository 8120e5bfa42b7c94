/- Several texts, joined for the limit of sixty files; each one opens with its own comment. -/
import Derived.Test.YtihiakkeloejlaaGreatDoorJoin36
import Derived.Test.YtihiakkeloejlaaGreatDoorJoin33
import Derived.Test.YtihiakkeloejlaaGreatDoorJoin25
import Derived.Test.YtihiakkeloejlaaGreatDoorJoin34
/- The document's Of of layer 41. -/
set_option linter.unusedVariables false
set_option linter.unusedSimpArgs false
namespace Sw
/-- the move that is found among the first j -/
def fdO (M : List (ByteArray × ByteArray)) (c : ChE) (j : Nat) : Option (ByteArray × ByteArray) := if c.1 = 1 then (M.take j).find? (fun m => decide (m.1 = c.2)) else none
def curO (M : List (ByteArray × ByteArray)) (c : ChE) (j : Nat) : Int × ByteArray × ByteArray := match fdO M c j with
  | some m => (4, m.1, m.2)
  | none => (c.1, c.2, ⟨#[]⟩)
def skO (M : List (ByteArray × ByteArray)) (c : ChE) (j : Nat) : Bool := decide (c.1 = 2) && (M.take j).any fun m => decide (m.2 = c.2)
theorem ofE_cur (M : List (ByteArray × ByteArray)) (c : ChE) : ofE M c = if skO M c M.length = true then none else some (curO M c M.length) := by
  unfold ofE skO curO fdO hasB
  rw [List.take_length]
  by_cases h1 : c.1 = 1
  · rw [if_pos h1, if_pos h1]
    have h2 : decide (c.1 = 2) = false := by rw [h1]; rfl
    rw [h2]
    simp only [Bool.false_and, Bool.false_eq_true, if_false]
    cases h : M.find? (fun m => decide (m.1 = c.2)) with
    | some m => rfl
    | none => simp [h1]
  · rw [if_neg h1, if_neg h1]
    by_cases h2 : c.1 = 2
    · rw [if_pos h2, decide_eq_true h2, Bool.true_and]
      by_cases ha : (M.any fun m => decide (m.2 = c.2)) = true
      · rw [if_pos ha, if_pos ha]
      · rw [if_neg ha, if_neg ha, h2]
    · rw [if_neg h2]; simp [h2]
theorem fdO_step {M : List (ByteArray × ByteArray)} {c : ChE} {j : Nat} (h : j < M.length) (h1 : c.1 = 1) : fdO M c (j + 1) = match fdO M c j with
    | some m => some m
    | none => if M[j].1 = c.2 then some M[j] else none := by
  unfold fdO
  rw [if_pos h1, if_pos h1, List.take_succ_eq_append_getElem h, List.find?_append]
  cases hf : (M.take j).find? (fun m => decide (m.1 = c.2)) with
  | some m => rfl
  | none =>
    rw [Option.none_or]
    by_cases hp : M[j].1 = c.2
    · rw [List.find?_cons_of_pos (by simpa using hp), if_pos hp]
    · rw [List.find?_cons_of_neg (by simpa using hp), if_neg hp]; rfl
theorem fdO_not {M : List (ByteArray × ByteArray)} {c : ChE} (j : Nat) (h1 : ¬ c.1 = 1) : fdO M c j = none := by
  unfold fdO
  rw [if_neg h1]
theorem skO_step {M : List (ByteArray × ByteArray)} {c : ChE} {j : Nat} (h : j < M.length) : skO M c (j + 1) = (skO M c j || (decide (c.1 = 2) && decide (M[j].2 = c.2))) := by
  unfold skO
  rw [List.take_succ_eq_append_getElem h, List.any_append]
  cases decide (c.1 = 2) <;> simp
end Sw
namespace Go.Proofs.YtihiakkeloejlaaGreatDoor
open Go Go.RowKit
open Sw
set_option maxRecDepth 100000 in
set_option maxHeartbeats 8000000 in
theorem refOf41_any (w : World) (v1 v2 : Value) (xs ys : List NE) (g1 : SlV w 5 eCSN v1 xs) (g2 : SlV w 5 eCSN v2 ys) (hm1 : xs.length ≤ 100) (hm2 : ys.length ≤ 100) (hz : ∀ m ∈ xs ++ ys, m.1.size ≤ 90000) (hup : Up ordS xs) (hup2 : Up ordS ys) (hxd : ∀ e ∈ xs, e.2.data.size ≤ maxLen) (hyd : ∀ e ∈ ys, e.2.data.size ≤ maxLen) :
    Calls Tryz.prog 17 #[v1, v2] w fun e w' => ∃ u, e = .returned u ∧ OwnK41 w' w.heap.size u (ofPD xs ys) ∧ Below w.heap.size w w' := by
  have hmm := refMoves41_any w v1 v2 xs ys g1 g2 hm1 hm2 hz hup hup2 hxd hyd
  have hee := fun W (hW : Below w.heap.size w W) => refEach41_any W v1 v2 xs ys (g1.below hW (Nat.le_refl _)) (g2.below hW (Nat.le_refl _)) hm1 hm2 hz hup hup2 hxd hyd
  have hel := each_lenE xs ys
  have hml : (movesP xs ys).length ≤ (eachP xs ys).length := by
    have h1 := tk_all xs ys
    have h2 := tk_len xs ys (eachP xs ys) (eachP xs ys) (fun _ => false, [])
    rw [h1] at h2
    simpa using h2
  have h4 := eachP_four xs ys
  unfold eachO at hee
  have hpd : ofPD xs ys = (eachP xs ys).filterMap (ofE (movesP xs ys)) := rfl
  rw [hpd]
  obtain ⟨L, hL⟩ : ∃ L, eachP xs ys = L := ⟨_, rfl⟩
  obtain ⟨M, hM⟩ : ∃ M, movesP xs ys = M := ⟨_, rfl⟩
  rw [hL] at hel hml h4 ⊢
  simp only [hL] at hee
  rw [hM] at hmm hml ⊢
  have HEE := Lib.hid hee
  have HMM := Lib.hid hmm
  have H4 := Lib.hid h4
  obtain ⟨A1, c1, rfl, _, _, _⟩ := g1
  obtain ⟨A2, c2, rfl, _, _, _⟩ := g2
  obtain ⟨n3, hn3⟩ : ∃ n, xs.length = n := ⟨_, rfl⟩
  obtain ⟨n4, hn4⟩ : ∃ n, ys.length = n := ⟨_, rfl⟩
  simp only [hn3, hn4] at HEE HMM hel hm1 hm2 ⊢
  clear hee hmm hz hup hup2 hxd hyd hpd hL hM hn3 hn4 h4
  go_enter Tryz.func17, Tryz.ntmps17
  go_wp2_with fail
  refine HMM.out.mono ?_
  rintro e w1 ⟨u, rfl, ho1, hb1⟩
  have hsl1 : SlV w1 3 eCC u (mvO M) := ho1.slv
  obtain ⟨A5, k5, rfl, hk5, hk52, hso1⟩ := hsl1
  unfold maxLen at hk52
  obtain ⟨nm, hnm⟩ : ∃ n, M.length = n := ⟨_, rfl⟩
  have hml2 : (mvO M).length = nm := by unfold mvO; rw [List.length_map]; exact hnm
  rw [hml2] at hk5 ⊢
  rw [hnm] at hml
  have HNM := Lib.hid (And.intro hnm hml2)
  have H1 := Lib.hid (And.intro hb1 hso1)
  clear hb1 hso1 ho1 HMM hnm hml2
  go_wp2_with fail
  refine (HEE.out w1 H1.out.1).mono ?_
  rintro e w2 ⟨u, rfl, ho2, hb2⟩
  have hsl2 : SlV w2 3 eCC u (L.map eO) := ho2.slv
  obtain ⟨A6, k6, rfl, hk6, hk62, hso2⟩ := hsl2
  unfold maxLen at hk62
  obtain ⟨n, hn⟩ : ∃ n, L.length = n := ⟨_, rfl⟩
  rw [List.length_map, hn] at hk6 ⊢
  rw [hn] at hel hml
  have HN := Lib.hid hn
  have hso1 := H1.out.2.below hb2 (Nat.le_refl _)
  have hb02 := H1.out.1.trans (hb2.mono H1.out.1.size)
  have hs2 := hb02.size
  have H2 := Lib.hid (And.intro hb02 (And.intro hso1 hso2))
  clear hn hb2 hb02 hso1 hso2 ho2 HEE H1
  go_wp2_with fail
  go_loopw [5, 19] (fun o iv wr => ∃ i : Nat, iv = .int .i64 i ∧ i ≤ n ∧ OwnK41 wr w2.heap.size o ((L.take i).filterMap (ofE M)) ∧ Below w2.heap.size w2 wr) (fun _ iv _ => n - (intOf iv).toNat)
  case atStart => exact ⟨0, rfl, Nat.zero_le _, World.ownsRow_nil _ _ _ _, Below.refl _ _⟩
  case round =>
    obtain ⟨i, rfl, hi, ho, hb⟩ := hrel
    have hbs := hb.size
    have hfl : ((L.take i).filterMap (ofE M)).length ≤ 200 := by
      have := List.length_filterMap_le (ofE M) (L.take i)
      rw [List.length_take] at this
      omega
    by_cases hlt : i < n
    · have hiL : i < L.length := by have := HN.out; omega
      have hst : (L.take (i + 1)).filterMap (ofE M) = (L.take i).filterMap (ofE M) ++ (if skO M L[i] M.length = true then [] else [curO M L[i] M.length]) := by
        rw [List.take_succ_eq_append_getElem hiL, List.filterMap_append]
        congr 1
        have he := ofE_cur M L[i]
        by_cases hs : skO M L[i] M.length = true
        · rw [if_pos hs] at he ⊢
          simp [he]
        · rw [if_neg hs] at he ⊢
          simp [he]
      have hf4 := H4.out L[i] (List.getElem_mem hiL)
      obtain ⟨b, off, rfl, hbb, hcs⟩ := (H2.out.2.2.below hb (Nat.le_refl _)) (by rw [List.length_map]; omega)
      have c0 := hcs i (by rw [List.length_map]; exact hiL) 0 (by omega)
      have c1' := hcs i (by rw [List.length_map]; exact hiL) 1 (by omega)
      have c2' := hcs i (by rw [List.length_map]; exact hiL) 2 (by omega)
      simp only [eCC, eO, List.getElem_map, List.getElem?_cons_succ, List.getElem?_cons_zero, Nat.add_zero] at c0 c1' c2'
      clear hcs
      have hi1 : (i : Int) < n := by omega
      obtain ⟨⟨kk, q⟩, hx⟩ : ∃ x, L[i] = x := ⟨_, rfl⟩
      simp only [hx] at c0 c1' c2' hst hf4
      clear hx
      obtain ⟨F, hF⟩ : ∃ F, (L.take i).filterMap (ofE M) = F := ⟨_, rfl⟩
      rw [hF] at ho hst hfl
      obtain ⟨m, hm⟩ : ∃ m, F.length = m := ⟨_, rfl⟩
      have HFM := Lib.hid hm
      unfold OwnK41 at ho
      rw [hm] at ho hfl
      have HST := Lib.hid hst
      obtain ⟨A4, k4, rfl, _, _, _⟩ := SlV_of_any ho
      have HO := Lib.hid (And.intro ho hb)
      have HF4 := Lib.hid hf4
      clear ho hb hst hm hF hf4
      go_upto_region 6 with fail
      obtain ⟨cb, hcb⟩ : ∃ c, wr.heap.size = c := ⟨_, rfl⟩
      obtain ⟨w3, hw3⟩ : ∃ w3, wr.alloc (.cells #[.int .i64 kk, .string q, .string ⟨#[]⟩] 41) = w3 := ⟨_, rfl⟩
      have hb3 : Below wr.heap.size wr w3 := by rw [← hw3]; exact (Below.refl _ wr).alloc (Nat.le_refl _) _
      have hB3 : Blk w3 cb 41 #[.int .i64 kk, .string q, .string ⟨#[]⟩] := by rw [← hw3, ← hcb]; exact Blk.new _ _ _
      have hol : ∀ g, (Value.slice A4 m k4).ownBlock = some g → g ≠ cb := fun g hg => by have := (HO.out.1.lt g hg).2; omega
      rw [hw3]
      try rw [hcb]
      have H3 := Lib.hid (And.intro (own_kept HO.out.1 hb3) (And.intro (HO.out.2.trans (hb3.mono hbs)) (And.intro hB3 hol)))
      have hcb2 : w2.heap.size ≤ cb := by omega
      clear hb3 hB3 hol hw3 c0 c1' c2' hcb HO
      go_wp2_with fail
      go_loopw [9, 25] (fun f jv wx => ∃ j : Nat, jv = .int .i64 j ∧ j ≤ nm ∧ f = .bool (skO M (kk, q) j) ∧ Blk wx cb 41 (eCC (curO M (kk, q) j)).toArray ∧ wx.ownsRow w2.heap.size 41 3 (.slice A4 m k4) m (F.flatMap eCC) ∧ Below w2.heap.size w2 wx) (fun _ jv _ => nm - (intOf jv).toNat)
      case atStart =>
        refine ⟨0, rfl, Nat.zero_le _, by unfold skO; simp, ?_, H3.out.1, H3.out.2.1⟩
        have : curO M (kk, q) 0 = (kk, q, ⟨#[]⟩) := by unfold curO fdO; simp
        rw [this]
        exact H3.out.2.2.1
      case round =>
        obtain ⟨j, rfl, hj, rfl, hB, ho, hb⟩ := hrel
        by_cases hlj : j < nm
        · have hjM : j < M.length := by have := HNM.out.1; omega
          obtain ⟨b', off', rfl, _, hcs⟩ := (H2.out.2.1.below hb (Nat.le_refl _)) (by rw [HNM.out.2]; omega)
          have c0 := hcs j (by rw [HNM.out.2]; exact hlj) 0 (by omega)
          have c1' := hcs j (by rw [HNM.out.2]; exact hlj) 1 (by omega)
          have c2' := hcs j (by rw [HNM.out.2]; exact hlj) 2 (by omega)
          simp only [eCC, mvO, List.getElem_map, List.getElem?_cons_succ, List.getElem?_cons_zero, Nat.add_zero] at c0 c1' c2'
          clear hcs
          have hj1 : (j : Int) < nm := by omega
          have hskS := skO_step (c := (kk, q)) hjM
          have hfdS := fun (h : (kk, q).1 = 1) => fdO_step (c := (kk, q)) hjM h
          obtain ⟨⟨m1, m2⟩, hx⟩ : ∃ x, M[j] = x := ⟨_, rfl⟩
          simp only [hx] at c0 c1' c2' hskS hfdS
          clear hx
          have hq1 := strD m1 q
          have hq2 := strD m2 q
          obtain ⟨sv, hsv⟩ : ∃ b, skO M (kk, q) j = b := ⟨_, rfl⟩
          rw [hsv]
          have HSK := Lib.hid hskS
          have HSV := Lib.hid hsv
          have HFD := Lib.hid hfdS
          clear hskS hsv hfdS
          go_upto_region 10 with fail
          obtain ⟨ob, hob⟩ : ∃ c, wr.heap.size = c := ⟨_, rfl⟩
          obtain ⟨w6, hw6⟩ : ∃ w6, wr.alloc (.cells #[.int .i64 4, .string m1, .string m2] 41) = w6 := ⟨_, rfl⟩
          have hba : Below wr.heap.size wr w6 := by rw [← hw6]; exact (Below.refl _ wr).alloc (Nat.le_refl _) _
          have hO6 : Blk w6 ob 41 #[.int .i64 4, .string m1, .string m2] := by rw [← hw6, ← hob]; exact Blk.new _ _ _
          have y0 := hO6.cell 0
          have y1 := hO6.cell 1
          have y2 := hO6.cell 2
          simp only [List.getElem?_toArray, List.getElem?_cons_succ, List.getElem?_cons_zero] at y0 y1 y2
          rw [hw6]
          try rw [hob]
          have hB6' := hB.below hba hB.lt
          have hown6 := own_kept ho hba
          have hb6 := hb.trans (hba.mono hb.size)
          clear hba hw6 c0 c1' c2' hB ho hb hob
          by_cases hk1 : kk = 1
          · subst hk1
            obtain ⟨r, hr⟩ : ∃ r, fdO M (1, q) j = r := ⟨_, rfl⟩
            have HR := Lib.hid hr
            clear hr
            cases r with
            | some m0 =>
              have hcu : curO M (1, q) j = (4, m0.1, m0.2) := by unfold curO; rw [HR.out]
              obtain ⟨m01, m02⟩ := m0
              have hB6 : Blk w6 cb 41 #[.int .i64 4, .string m01, .string m02] := by have := hB6'; rw [hcu] at this; exact this
              have z0 := hB6.cell 0
              have z1 := hB6.cell 1
              have z2 := hB6.cell 2
              have f0 := hB6.frozen 0
              have f1 := hB6.frozen 1
              have f2 := hB6.frozen 2
              simp only [List.getElem?_toArray, List.getElem?_cons_succ, List.getElem?_cons_zero] at z0 z1 z2
              have H6 := Lib.hid (And.intro hO6 (And.intro hB6 (And.intro hown6 hb6)))
              clear hO6 hB6 hB6' hown6 hb6 hcu
              have hsk2 : skO M (1, q) (j + 1) = sv := by rw [HSK.out, HSV.out]; simp
              have hcu2 : curO M (1, q) (j + 1) = (4, m01, m02) := by unfold curO; rw [HFD.out rfl, HR.out]
              have HE := Lib.hid (And.intro hsk2 hcu2)
              clear hsk2 hcu2
              go_wp2_with fail
              go_roundw
              case rel => exact ⟨j + 1, by go_num, by omega, by rw [HE.out.1], by rw [HE.out.2]; exact H6.out.2.1, H6.out.2.2.1, H6.out.2.2.2⟩
              case measure => simp [intOf]; omega
            | none =>
              have hcu : curO M (1, q) j = (1, q, ⟨#[]⟩) := by unfold curO; rw [HR.out]
              have hB6 : Blk w6 cb 41 #[.int .i64 1, .string q, .string ⟨#[]⟩] := by have := hB6'; rw [hcu] at this; exact this
              have z0 := hB6.cell 0
              have z1 := hB6.cell 1
              have z2 := hB6.cell 2
              have f0 := hB6.frozen 0
              have f1 := hB6.frozen 1
              have f2 := hB6.frozen 2
              simp only [List.getElem?_toArray, List.getElem?_cons_succ, List.getElem?_cons_zero] at z0 z1 z2
              have H6 := Lib.hid (And.intro hO6 (And.intro hB6 (And.intro hown6 hb6)))
              clear hO6 hB6 hB6' hown6 hb6 hcu
              obtain ⟨D, hD⟩ : ∃ D, decide (m1 = q) = D := ⟨_, rfl⟩
              have HD := Lib.hid hD
              rw [hD] at hq1
              clear hD
              cases D with
              | true =>
                have hme : m1 = q := of_decide_eq_true HD.out
                have HME := Lib.hid hme
                clear hme
                obtain ⟨w7, hw7⟩ : ∃ w7, ((w6.setCell ⟨cb, 0, none⟩ (.int .i64 4)).setCell ⟨cb, 1, none⟩ (.string m1)).setCell ⟨cb, 2, none⟩ (.string m2) = w7 := ⟨_, rfl⟩
                have hB7 : Blk w7 cb 41 #[.int .i64 4, .string m1, .string m2] := by rw [← hw7]; exact ((H6.out.2.1.put 0 _).put 1 _).put 2 _
                have hg7 : w6.grownBy w7 (some cb) := by rw [← hw7]; exact grown_put (grown_put (grown_put (grown_refl w6 (some cb)) 0 _) 1 _) 2 _
                have hown7 := World.ownsRow.kept H6.out.2.2.1 hg7 (by
                  by_cases hn : (Value.slice A4 m k4).ownBlock = none
                  · exact .inl hn
                  · obtain ⟨g, hg⟩ := Option.ne_none_iff_exists'.1 hn
                    exact .inr (fun e => H3.out.2.2.2 g hg (by rw [hg] at e; exact Option.some.inj e)))
                have hb7 : Below w2.heap.size w2 w7 := H6.out.2.2.2.grown hg7 H6.out.2.2.2.size (fun k hk => by cases hk; exact hcb2)
                have H7 := Lib.hid (And.intro hB7 (And.intro hown7 hb7))
                clear hB7 hg7 hown7 hb7
                go_upto_region 14 with fail
                clear hw7
                have hsk2 : skO M (1, q) (j + 1) = sv := by rw [HSK.out, HSV.out]; simp
                have hcu2 : curO M (1, q) (j + 1) = (4, m1, m2) := by unfold curO; rw [HFD.out rfl, HR.out]; simp only; rw [if_pos HME.out]
                have HE := Lib.hid (And.intro hsk2 hcu2)
                clear hsk2 hcu2
                go_wp2_with fail
                go_roundw
                case rel => exact ⟨j + 1, by go_num, by omega, by rw [HE.out.1], by rw [HE.out.2]; exact H7.out.1, H7.out.2.1, H7.out.2.2⟩
                case measure => simp [intOf]; omega
              | false =>
                have hme : ¬ m1 = q := of_decide_eq_false HD.out
                have HME := Lib.hid hme
                clear hme
                have hsk2 : skO M (1, q) (j + 1) = sv := by rw [HSK.out, HSV.out]; simp
                have hcu2 : curO M (1, q) (j + 1) = (1, q, ⟨#[]⟩) := by unfold curO; rw [HFD.out rfl, HR.out]; simp only; rw [if_neg HME.out]
                have HE := Lib.hid (And.intro hsk2 hcu2)
                clear hsk2 hcu2
                go_wp2_with fail
                go_roundw
                case rel => exact ⟨j + 1, by go_num, by omega, by rw [HE.out.1], by rw [HE.out.2]; exact H6.out.2.1, H6.out.2.2.1, H6.out.2.2.2⟩
                case measure => simp [intOf]; omega
          · have hfn := fun jj => fdO_not (M := M) (c := (kk, q)) jj hk1
            have hcu : curO M (kk, q) j = (kk, q, ⟨#[]⟩) := by unfold curO; rw [hfn]
            have HFN := Lib.hid hfn
            clear hfn
            have hB6 : Blk w6 cb 41 #[.int .i64 kk, .string q, .string ⟨#[]⟩] := by have := hB6'; rw [hcu] at this; exact this
            have z0 := hB6.cell 0
            have z1 := hB6.cell 1
            have z2 := hB6.cell 2
            have f0 := hB6.frozen 0
            have f1 := hB6.frozen 1
            have f2 := hB6.frozen 2
            simp only [List.getElem?_toArray, List.getElem?_cons_succ, List.getElem?_cons_zero] at z0 z1 z2
            have H6 := Lib.hid (And.intro hO6 (And.intro hB6 (And.intro hown6 hb6)))
            clear hO6 hB6 hB6' hown6 hb6 hcu
            have tk1 : (kk == 1) = false := by simpa using hk1
            by_cases hk2 : kk = 2
            · subst hk2
              clear tk1 hk1
              obtain ⟨D, hD⟩ : ∃ D, decide (m2 = q) = D := ⟨_, rfl⟩
              have HD := Lib.hid hD
              rw [hD] at hq2
              clear hD
              cases D with
              | true =>
                have hsk2 : skO M (2, q) (j + 1) = true := by rw [HSK.out, HSV.out]; show (sv || (decide ((2 : Int) = 2) && decide (m2 = q))) = true; rw [HD.out]; simp
                have hcu2 : curO M (2, q) (j + 1) = (2, q, ⟨#[]⟩) := by unfold curO; rw [HFN.out]
                have HE := Lib.hid (And.intro hsk2 hcu2)
                clear hsk2 hcu2
                go_wp2_with fail
                go_roundw
                case rel => exact ⟨j + 1, by go_num, by omega, by rw [HE.out.1], by rw [HE.out.2]; exact H6.out.2.1, H6.out.2.2.1, H6.out.2.2.2⟩
                case measure => simp [intOf]; omega
              | false =>
                have hsk2 : skO M (2, q) (j + 1) = sv := by rw [HSK.out, HSV.out]; show (sv || (decide ((2 : Int) = 2) && decide (m2 = q))) = sv; rw [HD.out]; simp
                have hcu2 : curO M (2, q) (j + 1) = (2, q, ⟨#[]⟩) := by unfold curO; rw [HFN.out]
                have HE := Lib.hid (And.intro hsk2 hcu2)
                clear hsk2 hcu2
                go_wp2_with fail
                go_roundw
                case rel => exact ⟨j + 1, by go_num, by omega, by rw [HE.out.1], by rw [HE.out.2]; exact H6.out.2.1, H6.out.2.2.1, H6.out.2.2.2⟩
                case measure => simp [intOf]; omega
            · have tk2 : (kk == 2) = false := by simpa using hk2
              have HK2 := Lib.hid hk2
              clear hk1 hk2
              have hsk2 : skO M (kk, q) (j + 1) = sv := by rw [HSK.out, HSV.out, decide_eq_false HK2.out]; simp
              have hcu2 : curO M (kk, q) (j + 1) = (kk, q, ⟨#[]⟩) := by unfold curO; rw [HFN.out]
              have HE := Lib.hid (And.intro hsk2 hcu2)
              clear hsk2 hcu2
              go_wp2_with fail
              go_roundw
              case rel => exact ⟨j + 1, by go_num, by omega, by rw [HE.out.1], by rw [HE.out.2]; exact H6.out.2.1, H6.out.2.2.1, H6.out.2.2.2⟩
              case measure => simp [intOf]; omega
        · obtain rfl : j = nm := by omega
          have hst := HST.out
          rw [HNM.out.1] at hst
          obtain ⟨sv, hsv⟩ : ∃ b, skO M (kk, q) j = b := ⟨_, rfl⟩
          rw [hsv] at hst ⊢
          obtain ⟨⟨ck, cp, cf⟩, hcu⟩ : ∃ c, curO M (kk, q) j = c := ⟨_, rfl⟩
          rw [hcu] at hst hB
          have z0 := hB.cell 0
          have z1 := hB.cell 1
          have z2 := hB.cell 2
          simp only [eCC, List.getElem?_toArray, List.getElem?_cons_succ, List.getElem?_cons_zero] at z0 z1 z2
          have HE := Lib.hid (And.intro hst (And.intro ho hb))
          have hs9 := hb.size
          clear hst ho hb hB hcu hsv
          cases sv with
          | true =>
            go_wp2_with fail
            go_roundw
            case rel => exact ⟨i + 1, by go_num, by omega, by rw [HE.out.1]; simp only [if_pos]; rw [List.append_nil]; unfold OwnK41; rw [HFM.out]; exact HE.out.2.1, HE.out.2.2⟩
            case measure => simp [intOf]; omega
          | false =>
            go_wp2_with (at_builtin; refine wpList_app rfl _ _ 38 rfl w2.heap.size 41 (.agg #[.int .i64 0, .string ⟨#[]⟩, .string ⟨#[]⟩]) 3 40 Tryz.underlying38 infoC41 rfl (by decide) _ m _ rfl (HE.out.2.1.alloc _) wr.heap.size 1 #[.int .i64 ck, .string cp, .string cf] 41 rfl (Blk.new _ _ _) rfl (by simp [Value.oneCell']) (by omega) (by decide) (by simp; omega) _ rfl ?_; intro g cap X hown1 hgrow1 hat hlt1)
            have HNX := Lib.hid (And.intro (OwnK41.app (x := (ck, cp, cf)) hown1 HFM.out) (own_below HE.out.2.1 (HE.out.2.2.alloc HE.out.2.2.size _) hgrow1 (Nat.le_refl _) (by simp; omega)))
            clear hown1 hgrow1 hat hlt1
            go_wp2_with fail
            go_roundw
            case rel => exact ⟨i + 1, by go_num, by omega, by rw [HE.out.1]; exact HNX.out.1, HNX.out.2⟩
            case measure => simp [intOf]; omega
    · obtain rfl : i = n := by omega
      have hf : L.take i = L := List.take_of_length_le (by have := HN.out; omega)
      rw [hf] at ho
      obtain ⟨mz, hmz⟩ : ∃ z, (L.filterMap (ofE M)).length = z := ⟨_, rfl⟩
      have HF := Lib.hid (And.intro (own_wide ho hs2) (H2.out.1.trans (hb.mono hs2)))
      obtain ⟨A4, k4, rfl, _, _, _⟩ := SlV_of_any ho
      rw [hmz] at HF ⊢
      have HMZ := Lib.hid hmz
      clear ho hb hf hmz
      go_wp2_with fail
      go_ret
      exact ⟨_, rfl, by unfold OwnK41; rw [HMZ.out]; exact HF.out.1, HF.out.2⟩
end Go.Proofs.YtihiakkeloejlaaGreatDoor
/- DiffOf: what holds in the law's loop over Each, and behind it. -/
set_option linter.unusedVariables false
set_option linter.unusedSimpArgs false
namespace Go.Proofs.YtihiakkeloejlaaGreatDoor
open Go Go.RowKit
open Sw
theorem slv_cutD {w : World} {size : Nat} {α : Type} {E : α → List Value} {A : Option Addr} {n c : Nat} {l : List α} (h : SlV w size E (.slice A n c) l) (j : Nat) (hj : j ≤ n) : SlV w size E (.slice A j c) (l.take j) := by
  obtain ⟨A', c', hv, h1, h2, h3⟩ := h
  obtain ⟨rfl, rfl, rfl⟩ : A = A' ∧ n = l.length ∧ c = c' := by injection hv with e1 e2 e3; exact ⟨e1, e2, e3⟩
  exact ⟨A, c, by rw [List.length_take, Nat.min_eq_left hj], by rw [List.length_take]; omega, h2, h3.take j⟩
/-- behind some words of the tree: the row in the box holds them -/
def GtI (Tg M : Nat) (pre : List NE) (W : World) : Prop := (pre.length ≤ M ∧ Tg + 1 ≤ W.heap.size) ∧ ∃ o, Blk W Tg 22 #[o] ∧ OwnIt W Tg o pre
def GtX (Tg M : Nat) (c : Code) (pre : List NE) (W : World) : Prop := ∃ (pre' : List NE) (x : NE), pre = pre' ++ [x] ∧ pre'.length = M ∧ c = .exit 4 ∧ Tg + 1 ≤ W.heap.size ∧ ∃ o, Blk W Tg 22 #[o] ∧ OwnIt W Tg o pre'
def ts41 : List TypeId := [41, 38, 40]
theorem keepOk41 : KeepOkD ts41 := by unfold KeepOkD ts41; decide
/-- behind some changes -/
structure E1 (q B0 gO gT gM bt bm bt2 bm2 : Nat) (v1 v2 mo : Value) (xs ys : List NE) (w0 : World) (pre : List ChE) (V : World) : Prop where
  len : pre.length ≤ q
  out : ∃ o, Blk V gO 38 #[o] ∧ OwnK41 V gO o (pre.map eO)
  two : Blk V gT 23 #[v1, v2]
  mos : Blk V gM 34 #[mo]
  t : TreeAt V bt bm xs
  t2 : TreeAt V bt2 bm2 ys
  low : Below B0 w0 V
section
variable {q B0 gO gT gM bt bm bt2 bm2 : Nat} {v1 v2 mo : Value} {xs ys : List NE} {w0 V V' : World} {pre : List ChE}
theorem E1.below (h : E1 q B0 gO gT gM bt bm bt2 bm2 v1 v2 mo xs ys w0 pre V) (hB : B0 ≤ V.heap.size) (hb : Below V.heap.size V V') : E1 q B0 gO gT gM bt bm bt2 bm2 v1 v2 mo xs ys w0 pre V' := by
  obtain ⟨o, hrc, ho⟩ := h.out
  exact ⟨h.len, ⟨o, hrc.below hb hrc.lt, own_kept ho hb⟩, h.two.below hb h.two.lt, h.mos.below hb h.mos.lt, h.t.below hb, h.t2.below hb, h.low.trans (hb.mono hB)⟩
theorem E1.own {B : Nat} (hB0 : B0 ≤ gO) (hrB : gO < B) : OwnM (fun _ => False) B (E1 q B0 gO gT gM bt bm bt2 bm2 v1 v2 mo xs ys w0) := fun s A C row h hg hr => by
  have hr1 : ∀ r, row = some r → B ≤ r ∧ ∃ o : Obj, A.heap[r]? = some o ∧ o.isCells = false := fun r e => (hr r e).resolve_left id
  have hr' : ∀ r, row = some r → ∃ o : Obj, A.heap[r]? = some o ∧ o.isCells = false := fun r e => (hr1 r e).2
  obtain ⟨o, hrc, ho⟩ := h.out
  have hs : B0 ≤ A.heap.size := Nat.le_trans hB0 (Nat.le_of_lt hrc.lt)
  exact ⟨h.len, ⟨o, blk_ownF hrc hg hr', own_ownF ho hg hr'⟩, blk_ownF h.two hg hr', blk_ownF h.mos hg hr', h.t.ownD hg hr', h.t2.ownD hg hr', h.low.trans ((Below.refl B0 A).grown hg hs (fun r e => by have := (hr1 r e).1; omega))⟩
/-- a change is taken -/
theorem E1.app (h : E1 q B0 gO gT gM bt bm bt2 bm2 v1 v2 mo xs ys w0 pre V) {B : Nat} (hB0 : B0 ≤ gO) {U X : World} {o : Value} (hrc : Blk V gO 38 #[o]) (ho : OwnK41 V gO o (pre.map eO))
    (hb0 : Below V.heap.size V U) (hgr : U.grownBy X o.ownBlock) {gN cap n : Nat} {c : ChE} (hnl : (pre.map eO).length = n) (hown : X.ownsRow gO 41 3 (.slice (some ⟨gN, 0, none⟩) (n + 1) cap) (n + 1) ((pre.map eO).flatMap eCC ++ eCC (eO c))) (hq : n < q) :
    KeepsFrom B V (X.setCell ⟨gO, 0, none⟩ (.slice (some ⟨gN, 0, none⟩) (n + 1) cap)) ∧ KeepR B0 ts41 V (X.setCell ⟨gO, 0, none⟩ (.slice (some ⟨gN, 0, none⟩) (n + 1) cap)) ∧ E1 q B0 gO gT gM bt bm bt2 bm2 v1 v2 mo xs ys w0 (pre ++ [c]) (X.setCell ⟨gO, 0, none⟩ (.slice (some ⟨gN, 0, none⟩) (n + 1) cap)) := by
  subst hnl
  have hA := app_body hrc ho hb0 hgr hown (Nat.le_of_lt hrc.lt) (Nat.le_refl _) (by decide)
  have hkR : KeepR B0 ts41 V (X.setCell ⟨gO, 0, none⟩ (.slice (some ⟨gN, 0, none⟩) ((pre.map eO).length + 1) cap)) := ⟨hA.below.mono hB0, fun g t cs hB ht => hA.far g t cs hB (fun e => ht (by rw [e]; decide)) (fun e => by
    subst e
    exact ht (by rw [hA.typ t cs hB]; decide))⟩
  have hne : ∀ {g t cs}, Blk V g t cs → t ≠ 41 → t ≠ 38 → Blk (X.setCell ⟨gO, 0, none⟩ (.slice (some ⟨gN, 0, none⟩) ((pre.map eO).length + 1) cap)) g t cs := fun hB h1 h2 => hA.far _ _ _ hB h1 (fun e => by
    subst e
    exact h2 (hA.typ _ _ hB))
  refine ⟨hA.keeps.from _, hkR, ⟨by rw [List.length_append]; simp only [List.length_map] at hq; simp only [List.length_cons, List.length_nil]; omega, ⟨_, hA.box, ?_⟩, hne h.two (by decide) (by decide), hne h.mos (by decide) (by decide), h.t.keptD hkR (by decide) (by decide) (by decide), h.t2.keptD hkR (by decide) (by decide) (by decide), h.low.trans hkR.low⟩⟩
  unfold OwnK41
  rw [List.map_append, List.length_append, List.flatMap_append]
  simpa using hA.own
end
/-- the loop is left by its break -/
def EX (id q B0 gO gT gM bt bm bt2 bm2 : Nat) (v1 v2 mo : Value) (xs ys : List NE) (w0 : World) (c : Code) (pre : List ChE) (V : World) : Prop := c = .exit id ∧ ∃ pre' x, pre = pre' ++ [x] ∧ pre'.length = q ∧ E1 q B0 gO gT gM bt bm bt2 bm2 v1 v2 mo xs ys w0 pre' V
theorem EX.own {id q B0 gO gT gM bt bm bt2 bm2 : Nat} {v1 v2 mo : Value} {xs ys : List NE} {w0 : World} (c : Code) {B : Nat} (hB0 : B0 ≤ gO) (hrB : gO < B) : OwnM (fun _ => False) B (EX id q B0 gO gT gM bt bm bt2 bm2 v1 v2 mo xs ys w0 c) := fun s A C row h hg hr => by
  obtain ⟨h1, p, x, h2, h3, h4⟩ := h
  exact ⟨h1, p, x, h2, h3, E1.own hB0 hrB p A C row h4 hg hr⟩
/-- behind the loop -/
structure DfZ (gO gT gM bt bm bt2 bm2 D : Nat) (v1 v2 mo got : Value) (ts : List OfE) (xs ys : List NE) (w0 V : World) : Prop where
  box : Blk V gO 38 #[got]
  own : OwnK41 V w0.heap.size got ts
  two : Blk V gT 23 #[v1, v2]
  mos : Blk V gM 34 #[mo]
  t : TreeAt V bt bm xs
  t2 : TreeAt V bt2 bm2 ys
  dfr : V.heap[D]? = some (.deferred (some []))
  low : Below w0.heap.size w0 V
theorem DfZ.below {gO gT gM bt bm bt2 bm2 D : Nat} {v1 v2 mo got : Value} {ts : List OfE} {xs ys : List NE} {w0 V V' : World} (h : DfZ gO gT gM bt bm bt2 bm2 D v1 v2 mo got ts xs ys w0 V) (hb : Below V.heap.size V V') : DfZ gO gT gM bt bm bt2 bm2 D v1 v2 mo got ts xs ys w0 V' :=
  ⟨h.box.below hb h.box.lt, own_kept h.own hb, h.two.below hb h.two.lt, h.mos.below hb h.mos.lt, h.t.below hb, h.t2.below hb, (hb.block D (Array.getElem?_eq_some_iff.1 h.dfr).1).trans h.dfr, h.low.trans (hb.mono h.low.size)⟩
end Go.Proofs.YtihiakkeloejlaaGreatDoor
