/- Several texts, joined for the limit of sixty files; each one opens with its own comment. -/
import Derived.Test.YtihiakkeloejlaaGreatDoorJoin35
import Derived.Test.YtihiakkeloejlaaGreatDoorJoin32
import Derived.Test.YtihiakkeloejlaaGreatDoorJoin29
/- The document's Moves of layer 41. -/
set_option linter.unusedVariables false
set_option linter.unusedSimpArgs false
namespace Sw
/-- the first of j places that may be -/
def inF (p : Nat → Bool) (j : Nat) : Option Nat := (List.range j).find? p
theorem inF_step (p : Nat → Bool) (j : Nat) : inF p (j + 1) = match inF p j with
    | some i => some i
    | none => if p j = true then some j else none := by
  unfold inF
  rw [List.range_succ, List.find?_append]
  cases h : (List.range j).find? p with
  | some i => rfl
  | none =>
    rw [Option.none_or]
    by_cases hp : p j = true
    · rw [List.find?_cons_of_pos hp, if_pos hp]
    · rw [List.find?_cons_of_neg hp, if_neg hp]; rfl
def stI (L : List ChE) (st : (Nat → Bool) × List (ByteArray × ByteArray)) (c : ChE) (r : Option Nat) : (Nat → Bool) × List (ByteArray × ByteArray) := match r with
  | some i => (fun j => if j = i then true else st.1 j, st.2 ++ [(c.2, (L.getD i (0, ⟨#[]⟩)).2)])
  | none => st
theorem tkStep_in {xs ys : List NE} {L : List ChE} {st : (Nat → Bool) × List (ByteArray × ByteArray)} {c : ChE} (h : isCame ys c = true) : tkStep xs ys L st c = stI L st c (inF (fun i => !st.1 i && hitM xs (printN (getT ys c.2)) (L.getD i (0, ⟨#[]⟩))) L.length) := by
  unfold tkStep stI inF
  rw [if_pos h]
  cases (List.range L.length).find? (fun i => !st.1 i && hitM xs (printN (getT ys c.2)) (L.getD i (0, ⟨#[]⟩))) <;> rfl
theorem tkStep_not {xs ys : List NE} {L : List ChE} {st : (Nat → Bool) × List (ByteArray × ByteArray)} {c : ChE} (h : isCame ys c = false) : tkStep xs ys L st c = st := by
  unfold tkStep
  rw [if_neg (by rw [h]; decide)]
theorem stI_len (L : List ChE) (st : (Nat → Bool) × List (ByteArray × ByteArray)) (c : ChE) (r : Option Nat) : (stI L st c r).2.length ≤ st.2.length + 1 := by
  unfold stI
  cases r <;> simp
theorem tk_len (xs ys : List NE) (L : List ChE) : ∀ (E : List ChE) (st : (Nat → Bool) × List (ByteArray × ByteArray)), (E.foldl (tkStep xs ys L) st).2.length ≤ st.2.length + E.length
  | [], st => by simp
  | c :: E, st => by
    rw [List.foldl_cons]
    have h1 := tk_len xs ys L E (tkStep xs ys L st c)
    have h2 : (tkStep xs ys L st c).2.length ≤ st.2.length + 1 := by
      by_cases h : isCame ys c = true
      · rw [tkStep_in h]; exact stI_len _ _ _ _
      · rw [tkStep_not (by simpa using h)]; omega
    simp only [List.length_cons]
    omega
end Sw
namespace Go.Proofs.YtihiakkeloejlaaGreatDoor
open Go Go.RowKit
open Sw
theorem each_lenE (xs ys : List NE) : (eachP xs ys).length ≤ xs.length + ys.length := by
  unfold eachP
  refine Nat.le_trans (List.length_filterMap_le _ _) (Nat.le_trans (pathsS_len _) ?_)
  rw [List.length_append, List.length_map, List.length_map]
  exact Nat.le_refl _
set_option maxRecDepth 100000 in
set_option maxHeartbeats 8000000 in
theorem refMoves41_any (w : World) (v1 v2 : Value) (xs ys : List NE) (g1 : SlV w 5 eCSN v1 xs) (g2 : SlV w 5 eCSN v2 ys) (hm1 : xs.length ≤ 100) (hm2 : ys.length ≤ 100) (hz : ∀ m ∈ xs ++ ys, m.1.size ≤ 90000) (hup : Up ordS xs) (hup2 : Up ordS ys) (hxd : ∀ e ∈ xs, e.2.data.size ≤ maxLen) (hyd : ∀ e ∈ ys, e.2.data.size ≤ maxLen) :
    Calls Tryz.prog 16 #[v1, v2] w fun e w' => ∃ u, e = .returned u ∧ OwnK41 w' w.heap.size u (mvO (movesP xs ys)) ∧ Below w.heap.size w w' := by
  have hee := refEach41_any w v1 v2 xs ys g1 g2 hm1 hm2 hz hup hup2 hxd hyd
  have hel := each_lenE xs ys
  have hall := tk_all xs ys
  unfold eachO at hee
  rw [← hall]
  obtain ⟨L, hL⟩ : ∃ L, eachP xs ys = L := ⟨_, rfl⟩
  rw [hL] at hee hel ⊢
  have HEE := Lib.hid hee
  have HG1 := Lib.hid (fun W (hW : Below w.heap.size w W) q => (show Calls Tryz.prog 35 #[v1, .string q] W fun e w' => e = .returned (.agg (getT xs q).c) ∧ Below W.heap.size W w' from by
    have := ref16Get_any W _ xs q (g1.below hW (Nat.le_refl _))
    rw [refGetT_eq xs q hup] at this
    exact this))
  have HG2 := Lib.hid (fun W (hW : Below w.heap.size w W) q => (show Calls Tryz.prog 35 #[v2, .string q] W fun e w' => e = .returned (.agg (getT ys q).c) ∧ Below W.heap.size W w' from by
    have := ref16Get_any W _ ys q (g2.below hW (Nat.le_refl _))
    rw [refGetT_eq ys q hup2] at this
    exact this))
  have HZ := Lib.hid (And.intro (fun q => getT_szE (p := q) hup hxd) (fun q => getT_szE (p := q) hup2 hyd))
  obtain ⟨A1, c1, rfl, _, _, _⟩ := g1
  obtain ⟨A2, c2, rfl, _, _, _⟩ := g2
  obtain ⟨n3, hn3⟩ : ∃ n, xs.length = n := ⟨_, rfl⟩
  obtain ⟨n4, hn4⟩ : ∃ n, ys.length = n := ⟨_, rfl⟩
  simp only [hn3, hn4] at HEE HG1 HG2 hel hm1 hm2 ⊢
  clear hee hz hup hup2 hxd hyd hall hL hn3 hn4
  go_enter Tryz.func16, Tryz.ntmps16
  go_wp2_with fail
  refine HEE.out.mono ?_
  rintro e w1 ⟨u, rfl, ho1, hb1⟩
  have hsl1 : SlV w1 3 eCC u (L.map eO) := ho1.slv
  obtain ⟨A6, k6, rfl, hk6, hk62, hso⟩ := hsl1
  unfold maxLen at hk62
  obtain ⟨n, hn⟩ : ∃ n, L.length = n := ⟨_, rfl⟩
  rw [List.length_map, hn] at hk6 ⊢
  rw [hn] at hel
  have HN := Lib.hid hn
  have H1 := Lib.hid (And.intro hb1 hso)
  have hs1 := hb1.size
  clear hn hb1 hso ho1 HEE
  go_wp2_with (at_make; refine wpList_mkB _ rfl _ _ rfl .i64 .i64 n rfl rfl (by omega) ?_; intro w2 hr2 hb2 hs2)
  obtain ⟨tb, htb⟩ : ∃ t, w1.heap.size = t := ⟨_, rfl⟩
  rw [htb] at hr2 hs2 ⊢
  have H2 := Lib.hid (And.intro hb2 hr2)
  have HTB := Lib.hid htb
  clear hb2 hr2 hs2
  go_wp2_with fail
  go_loopw [5, 23] (fun o iv wr => ∃ i : Nat, iv = .int .i64 i ∧ i ≤ n ∧ OwnK41 wr w1.heap.size o (mvO ((L.take i).foldl (tkStep xs ys L) (fun _ => false, [])).2) ∧ RowB wr tb n ((L.take i).foldl (tkStep xs ys L) (fun _ => false, [])).1 ∧ Below w1.heap.size w1 wr) (fun _ iv _ => n - (intOf iv).toNat)
  case atStart => exact ⟨0, rfl, Nat.zero_le _, World.ownsRow_nil _ _ _ _, H2.out.2, H2.out.1⟩
  case round =>
    obtain ⟨i, rfl, hi, ho, hrow, hb⟩ := hrel
    have hbw := H1.out.1.trans (hb.mono hs1)
    have hbs := hbw.size
    have hstl : ((L.take i).foldl (tkStep xs ys L) (fun _ => false, [])).2.length ≤ 200 := by
      have := tk_len xs ys L (L.take i) (fun _ => false, [])
      rw [List.length_take] at this
      simp only [List.length_nil] at this
      omega
    by_cases hlt : i < n
    · have hiL : i < L.length := by have := HN.out; omega
      have hst : (L.take (i + 1)).foldl (tkStep xs ys L) (fun _ => false, []) = tkStep xs ys L ((L.take i).foldl (tkStep xs ys L) (fun _ => false, [])) L[i] := by
        rw [List.take_succ_eq_append_getElem hiL, List.foldl_append]; rfl
      obtain ⟨st, hste⟩ : ∃ st, (L.take i).foldl (tkStep xs ys L) (fun _ => false, []) = st := ⟨_, rfl⟩
      rw [hste] at ho hrow hst hstl
      have hcell := fun (j : Nat) (hj : j < L.length) (W : World) (hW : Below w1.heap.size w1 W) => (by
        obtain ⟨b, off, hA, hbb, hcs⟩ := (H1.out.2.below hW (Nat.le_refl _)) (by rw [List.length_map]; omega)
        exact ⟨b, off, hA, fun m hm => (hcs j (by rw [List.length_map]; exact hj) m hm)⟩ : ∃ b off, A6 = some ⟨b, off, none⟩ ∧ ∀ m (hm : m < 3), W.cell? ⟨b, off + j * 3 + m, none⟩ = (eCC ((L.map eO)[j]'(by rw [List.length_map]; exact hj)))[m]?)
      have HCELL := Lib.hid hcell
      obtain ⟨b, off, rfl, hcs⟩ := hcell i hiL wr hb
      have c0 := hcs 0 (by omega)
      have c1' := hcs 1 (by omega)
      have c2' := hcs 2 (by omega)
      simp only [eCC, eO, List.getElem_map, List.getElem?_cons_succ, List.getElem?_cons_zero, Nat.add_zero] at c0 c1' c2'
      clear hcs hcell hste
      have hi1 : (i : Int) < n := by omega
      obtain ⟨⟨kk, q⟩, hx⟩ : ∃ x, L[i] = x := ⟨_, rfl⟩
      simp only [hx] at c0 c1' c2' hst
      clear hx
      have hg := fun W hW => HG2.out W hW q
      have hndz := HZ.out.2 q
      have hcm : isCame ys (kk, q) = (decide (kk = 1) && fileN (getT ys q)) := rfl
      have hin := fun (h : isCame ys (kk, q) = true) => tkStep_in (xs := xs) (L := L) (st := st) h
      have hno := fun (h : isCame ys (kk, q) = false) => tkStep_not (xs := xs) (L := L) (st := st) h
      simp only at hin
      obtain ⟨nd, hnd⟩ : ∃ nd, getT ys q = nd := ⟨_, rfl⟩
      simp only [hnd] at hg hndz hcm hin
      obtain ⟨m, hm⟩ : ∃ m, (mvO st.2).length = m := ⟨_, rfl⟩
      have hm200 : m ≤ 200 := by rw [← hm]; unfold mvO; rw [List.length_map]; exact hstl
      have HMM := Lib.hid hm
      unfold OwnK41 at ho
      rw [hm] at ho
      have HST := Lib.hid (And.intro hst (And.intro hin hno))
      have HPY := Lib.hid (fun W => refPrint_any W nd hndz)
      have HO := Lib.hid (And.intro ho (And.intro hrow (And.intro hb hbw)))
      have HCM := Lib.hid hcm
      clear hst hin hno hndz hnd ho hrow hb hbw hcm hm hstl
      obtain ⟨ak, am, at', ad⟩ := nd
      simp only [Nd.c] at hg HPY
      have HG := Lib.hid hg
      obtain ⟨A4, k4, rfl, _, _, _⟩ := SlV_of_any HO.out.1
      clear hg
      go_upto_region 7 with fail
      obtain ⟨w3, hw3⟩ : ∃ w3, wr.alloc (.cells #[.int .i64 kk, .string q, .string ⟨#[]⟩] 41) = w3 := ⟨_, rfl⟩
      have hb3 : Below wr.heap.size wr w3 := by rw [← hw3]; exact (Below.refl _ wr).alloc (Nat.le_refl _) _
      have hB3 : Blk w3 wr.heap.size 41 #[.int .i64 kk, .string q, .string ⟨#[]⟩] := by rw [← hw3]; exact Blk.new _ _ _
      have z0 := hB3.cell 0
      have z1 := hB3.cell 1
      have z2 := hB3.cell 2
      simp only [List.getElem?_toArray, List.getElem?_cons_succ, List.getElem?_cons_zero] at z0 z1 z2
      have H3 := Lib.hid (And.intro hb3 hB3)
      rw [hw3]
      clear hb3 hB3 hw3
      go_wp2_with fail
      refine (HG.out w3 (HO.out.2.2.2.trans (H3.out.1.mono hbs))).mono ?_
      rintro e w4 ⟨rfl, hb4⟩
      obtain ⟨cb, hcb⟩ : ∃ c, wr.heap.size = c := ⟨_, rfl⟩
      obtain ⟨nb, hnb⟩ : ∃ c, w4.heap.size = c := ⟨_, rfl⟩
      obtain ⟨w5, hw5⟩ : ∃ w5, w4.alloc (.cells #[.int .i64 ak, .int .i64 am, .int .u32 at', .string ad] 54) = w5 := ⟨_, rfl⟩
      have hb5 : Below wr.heap.size wr w5 := by rw [← hw5]; exact (H3.out.1.trans (hb4.mono H3.out.1.size)).alloc (Nat.le_trans H3.out.1.size hb4.size) _
      have hC5 : Blk w5 cb 41 #[.int .i64 kk, .string q, .string ⟨#[]⟩] := by rw [← hw5, ← hcb]; exact (H3.out.2.below hb4 H3.out.2.lt).alloc _
      have hN5 : Blk w5 nb 54 #[.int .i64 ak, .int .i64 am, .int .u32 at', .string ad] := by rw [← hw5, ← hnb]; exact Blk.new _ _ _
      have x0 := hC5.cell 0
      have x1 := hC5.cell 1
      have y0 := hN5.cell 0
      have y1 := hN5.cell 1
      have y2 := hN5.cell 2
      have y3 := hN5.cell 3
      simp only [List.getElem?_toArray, List.getElem?_cons_succ, List.getElem?_cons_zero] at x0 x1 y0 y1 y2 y3
      have hO5 := own_kept HO.out.1 hb5
      have hR5 : RowB w5 tb n st.1 := World.rowIs.of_block HO.out.2.1 (hb5.block tb (World.rowIs.lt HO.out.2.1))
      have hb15 := HO.out.2.2.1.trans (hb5.mono HO.out.2.2.1.size)
      have H5 := Lib.hid (And.intro hO5 (And.intro hR5 (And.intro hb15 (And.intro hC5 hN5))))
      clear hb4 hb5 hC5 hN5 hO5 hR5 hb15 z0 z1 z2 c0 c1' c2' HG
      go_upto_region 8 with fail
      clear hw5
      by_cases hk : kk = 1
      · by_cases ha : ak = 1
        · have hem := strEm ad
          obtain ⟨D, hD⟩ : ∃ D, decide (ad = ⟨#[]⟩) = D := ⟨_, rfl⟩
          have HD := Lib.hid hD
          rw [hD] at hem
          subst hk ha
          clear hD
          cases D with
          | true =>
            have hcmf : isCame ys (1, q) = false := by rw [HCM.out]; unfold fileN; simp [of_decide_eq_true HD.out]
            have hst := HST.out.1
            rw [HST.out.2.2 hcmf] at hst
            have HS2 := Lib.hid hst
            clear hst hcmf
            go_wp2_with fail
            go_roundw
            case rel => exact ⟨i + 1, by go_num, by omega, by rw [HS2.out]; unfold OwnK41; rw [HMM.out]; exact H5.out.1, by rw [HS2.out]; exact H5.out.2.1, H5.out.2.2.1⟩
            case measure => simp [intOf]; omega
          | false =>
            have hcmt : isCame ys (1, q) = true := by rw [HCM.out]; unfold fileN; simp [of_decide_eq_false HD.out]
            have hst := HST.out.1
            rw [HST.out.2.1 hcmt] at hst
            obtain ⟨p, hp⟩ : ∃ p : Nat → Bool, (fun i => !st.1 i && hitM xs (printN ⟨1, am, at', ad⟩) (L.getD i (0, ⟨#[]⟩))) = p := ⟨_, rfl⟩
            rw [hp] at hst
            have HST2 := Lib.hid (And.intro hst hp)
            have hnone : inF p 0 = none := rfl
            have HN0 := Lib.hid hnone
            clear hst hp hcmt hnone
            go_wp2_with fail
            clear hem
            go_loopw [5, 11, 46] (fun o f jv wx => ∃ j : Nat, jv = .int .i64 j ∧ j ≤ n ∧ f = .bool (inF p j).isSome ∧ OwnK41 wx w1.heap.size o (mvO (stI L st (1, q) (inF p j)).2) ∧ RowB wx tb n (stI L st (1, q) (inF p j)).1 ∧ Below w1.heap.size w1 wx ∧ (inF p j = none → Blk wx cb 41 #[.int .i64 1, .string q, .string ⟨#[]⟩] ∧ Blk wx nb 54 #[.int .i64 1, .int .i64 am, .int .u32 at', .string ad])) (fun _ _ jv _ => n - (intOf jv).toNat)
            case atStart =>
              refine ⟨0, rfl, Nat.zero_le _, ?_⟩
              rw [HN0.out]
              exact ⟨rfl, by unfold OwnK41; show w5.ownsRow _ _ _ _ (mvO st.2).length _; rw [HMM.out]; exact H5.out.1, H5.out.2.1, H5.out.2.2.1, fun _ => H5.out.2.2.2⟩
            case round =>
              obtain ⟨j, rfl, hj, rfl, ho, hrow, hb, hnn⟩ := hrel
              by_cases hlj : j < n
              · have hjL : j < L.length := by have := HN.out; omega
                obtain ⟨b', off', hA, hcs⟩ := HCELL.out j hjL _ hb
                obtain ⟨rfl, rfl⟩ : b = b' ∧ off = off' := by injection hA with h1; injection h1 with h2 h3; exact ⟨h2, h3⟩
                have c0 := hcs 0 (by omega)
                have c1' := hcs 1 (by omega)
                have c2' := hcs 2 (by omega)
                simp only [eCC, eO, List.getElem_map, List.getElem?_cons_succ, List.getElem?_cons_zero, Nat.add_zero] at c0 c1' c2'
                have hgd : L.getD j (0, ⟨#[]⟩) = L[j] := by simp [List.getD_eq_getElem?_getD, hjL]
                have hpj : p j = (!st.1 j && hitM xs (printN ⟨1, am, at', ad⟩) (L.getD j (0, ⟨#[]⟩))) := by rw [← HST2.out.2]
                rw [hgd] at hpj
                have hj1 : (j : Int) < n := by omega
                obtain ⟨⟨kj, qj⟩, hx⟩ : ∃ x, L[j] = x := ⟨_, rfl⟩
                simp only [hx] at c0 c1' c2' hpj hgd
                have hg := fun W hW => HG1.out W hW qj
                have hndz := HZ.out.1 qj
                have hhit : hitM xs (printN ⟨1, am, at', ad⟩) (kj, qj) = (decide (kj = 2) && (decide ((getT xs qj).kind = 1) && decide (printN (getT xs qj) = printN ⟨1, am, at', ad⟩))) := rfl
                have hEQ := fun W => eq_print (printN (getT xs qj)) (printN ⟨1, am, at', ad⟩) W
                obtain ⟨md, hmd⟩ : ∃ md, getT xs qj = md := ⟨_, rfl⟩
                simp only [hmd] at hg hndz hhit hEQ
                have hpx := fun W => refPrint_any W md hndz
                rw [hhit] at hpj
                clear hx hhit hcs hA hndz hmd
                obtain ⟨D, hD⟩ : ∃ D, decide (printN md = printN ⟨1, am, at', ad⟩) = D := ⟨_, rfl⟩
                simp only [hD] at hpj hEQ
                clear hD
                have hpy := HPY.out
                obtain ⟨pr1, hp1⟩ : ∃ r, printN md = r := ⟨_, rfl⟩
                obtain ⟨pr2, hp2⟩ : ∃ r, printN ⟨1, am, at', ad⟩ = r := ⟨_, rfl⟩
                simp only [hp1] at hEQ hpx
                simp only [hp2] at hEQ hpy
                clear hp1 hp2
                obtain ⟨fa, fb, fc, fd, fs⟩ := pr1
                obtain ⟨ga, gb, gc, gd, gs⟩ := pr2
                obtain ⟨mk, mm, mt, mz⟩ := md
                simp only [Pr.c, Nd.c] at hg hpx hpy hEQ hpj
                have HG := Lib.hid hg
                have HPX := Lib.hid hpx
                have HPYY := Lib.hid hpy
                have HPJ := Lib.hid hpj
                have HGD := Lib.hid hgd
                obtain ⟨r, hr⟩ : ∃ r, inF p j = r := ⟨_, rfl⟩
                rw [hr] at ho hrow hnn ⊢
                have HRR := Lib.hid hr
                obtain ⟨mx, hmx⟩ : ∃ z, (mvO (stI L st (1, q) r).2).length = z := ⟨_, rfl⟩
                have hmx2 : mx ≤ 201 := by
                  have := stI_len L st (1, q) r
                  have h2 := HMM.out
                  rw [← hmx]
                  unfold mvO at h2 ⊢
                  rw [List.length_map] at h2 ⊢
                  omega
                unfold OwnK41 at ho
                rw [hmx] at ho
                obtain ⟨A7, k7, rfl, _, _, _⟩ := SlV_of_any ho
                have HMX := Lib.hid hmx
                have hbwx := H1.out.1.trans (hb.mono hs1)
                have HI := Lib.hid (And.intro ho (And.intro hrow (And.intro hb hnn)))
                clear hg hpx hpy hpj hgd hr hmx ho hrow hnn hb HN0
                go_upto_region 13 with fail
                obtain ⟨ob, hob⟩ : ∃ c, wr.heap.size = c := ⟨_, rfl⟩
                obtain ⟨w6, hw6⟩ : ∃ w6, wr.alloc (.cells #[.int .i64 kj, .string qj, .string ⟨#[]⟩] 41) = w6 := ⟨_, rfl⟩
                have hb6 : Below wr.heap.size wr w6 := by rw [← hw6]; exact (Below.refl _ wr).alloc (Nat.le_refl _) _
                have hO6 : Blk w6 ob 41 #[.int .i64 kj, .string qj, .string ⟨#[]⟩] := by rw [← hw6, ← hob]; exact Blk.new _ _ _
                have z0 := hO6.cell 0
                have z1 := hO6.cell 1
                have z2 := hO6.cell 2
                simp only [List.getElem?_toArray, List.getElem?_cons_succ, List.getElem?_cons_zero] at z0 z1 z2
                rw [hw6]
                try rw [hob]
                have hbw6 := hbwx.trans (hb6.mono hbwx.size)
                have H6 := Lib.hid (And.intro hb6 (And.intro hO6 hbw6))
                clear hb6 hO6 hbw6 hw6 hob c0 c1' c2' hbwx
                go_wp2_with fail
                refine (HG.out w6 H6.out.2.2).mono ?_
                rintro e w7 ⟨rfl, hb7⟩
                obtain ⟨mb, hmb⟩ : ∃ c, w7.heap.size = c := ⟨_, rfl⟩
                obtain ⟨w8, hw8⟩ : ∃ w8, w7.alloc (.cells #[.int .i64 mk, .int .i64 mm, .int .u32 mt, .string mz] 54) = w8 := ⟨_, rfl⟩
                have hb8 : Below wr.heap.size wr w8 := by rw [← hw8]; exact (H6.out.1.trans (hb7.mono H6.out.1.size)).alloc (Nat.le_trans H6.out.1.size hb7.size) _
                have hO8 : Blk w8 ob 41 #[.int .i64 kj, .string qj, .string ⟨#[]⟩] := by rw [← hw8]; exact (H6.out.2.1.below hb7 H6.out.2.1.lt).alloc _
                have hM8 : Blk w8 mb 54 #[.int .i64 mk, .int .i64 mm, .int .u32 mt, .string mz] := by rw [← hw8, ← hmb]; exact Blk.new _ _ _
                have HO8 := Lib.hid (And.intro hO8 hM8)
                have HI8 := Lib.hid (And.intro (own_kept HI.out.1 hb8) (And.intro (World.rowIs.of_block HI.out.2.1 (hb8.block tb (World.rowIs.lt HI.out.2.1)) : RowB w8 tb n (stI L st (1, q) r).1) (And.intro (HI.out.2.2.1.trans (hb8.mono HI.out.2.2.1.size)) (fun h : r = none => And.intro ((HI.out.2.2.2 h).1.below hb8 (HI.out.2.2.2 h).1.lt) ((HI.out.2.2.2 h).2.below hb8 (HI.out.2.2.2 h).2.lt)))))
                clear hb7 hb8 hO8 hM8 z0 z1 z2 HG HI H6
                go_upto_region 14 with fail
                clear hw8 hmb
                have e0 : ∀ m : Held (Aft w8), (HeldW m).cell? ⟨ob, 0, none⟩ = some (.int .i64 kj) := fun m => (Aft.cell m HO8.out.1.lt).trans (HO8.out.1.cell 0)
                have t0 : ∀ m : Held (Aft w8), (HeldW m).cell? ⟨mb, 0, none⟩ = some (.int .i64 mk) := fun m => (Aft.cell m HO8.out.2.lt).trans (HO8.out.2.cell 0)
                have t1 : ∀ m : Held (Aft w8), (HeldW m).cell? ⟨mb, 1, none⟩ = some (.int .i64 mm) := fun m => (Aft.cell m HO8.out.2.lt).trans (HO8.out.2.cell 1)
                have t2 : ∀ m : Held (Aft w8), (HeldW m).cell? ⟨mb, 2, none⟩ = some (.int .u32 mt) := fun m => (Aft.cell m HO8.out.2.lt).trans (HO8.out.2.cell 2)
                have t3 : ∀ m : Held (Aft w8), (HeldW m).cell? ⟨mb, 3, none⟩ = some (.string mz) := fun m => (Aft.cell m HO8.out.2.lt).trans (HO8.out.2.cell 3)
                have r0 : ∀ m : Held (Aft w8), (HeldW m).cell? ⟨tb, j, none⟩ = some (.bool ((stI L st (1, q) r).1 j)) := fun m => (Aft.cell m (World.rowIs.lt HI8.out.2.1)).trans (World.rowIs.cell HI8.out.2.1 hlj)
                cases r with
                | some i0 =>
                  have u0 := 0
                  have u1 := 0
                  have u2 := 0
                  have u3 := 0
                  haveI := Aft.some w8
                  refine wp_region_class (Aft w8) (by kernel_rfl) (by kernel_rfl) (Aft.start w8) ?_
                  repeat (go_big_quiet_step (fail))
                  refine wpQuiet_nil ?_
                  rintro _ ⟨nn, rfl⟩
                  have hb9 : Below w8.heap.size w8 (HeldW nn) := HeldW_spec nn
                  clear e0 t0 t1 t2 t3 r0 u0 u1 u2 u3
                  generalize (HeldW nn : World) = w9 at *
                  have H9 := Lib.hid hb9
                  clear hb9
                  have hstp : inF p (j + 1) = some i0 := by rw [inF_step, HRR.out]
                  have HSP := Lib.hid hstp
                  clear hstp
                  go_wp2_with fail
                  go_roundw
                  case rel =>
                    refine ⟨j + 1, by go_num, by omega, ?_⟩
                    rw [HSP.out]
                    refine ⟨rfl, by unfold OwnK41; rw [HMX.out]; exact own_kept HI8.out.1 H9.out, World.rowIs.of_block HI8.out.2.1 (H9.out.block tb (World.rowIs.lt HI8.out.2.1)), HI8.out.2.2.1.trans (H9.out.mono HI8.out.2.2.1.size), fun h => ⟨(HI8.out.2.2.2 h).1.below H9.out (HI8.out.2.2.2 h).1.lt, (HI8.out.2.2.2 h).2.below H9.out (HI8.out.2.2.2 h).2.lt⟩⟩
                  case measure => simp [intOf]; omega
                | none =>
                  have hNB := (HI8.out.2.2.2 rfl).2
                  have u0 : ∀ m : Held (Aft w8), (HeldW m).cell? ⟨nb, 0, none⟩ = some (.int .i64 1) := fun m => (Aft.cell m hNB.lt).trans (hNB.cell 0)
                  have u1 : ∀ m : Held (Aft w8), (HeldW m).cell? ⟨nb, 1, none⟩ = some (.int .i64 am) := fun m => (Aft.cell m hNB.lt).trans (hNB.cell 1)
                  have u2 : ∀ m : Held (Aft w8), (HeldW m).cell? ⟨nb, 2, none⟩ = some (.int .u32 at') := fun m => (Aft.cell m hNB.lt).trans (hNB.cell 2)
                  have u3 : ∀ m : Held (Aft w8), (HeldW m).cell? ⟨nb, 3, none⟩ = some (.string ad) := fun m => (Aft.cell m hNB.lt).trans (hNB.cell 3)
                  clear hNB
                  obtain ⟨tj, htj⟩ : ∃ b, st.1 j = b := ⟨_, rfl⟩
                  have htj2 : (stI L st (1, q) none).1 j = tj := htj
                  rw [htj2] at r0
                  have HTJ := Lib.hid htj
                  clear htj htj2
                  cases tj with
                  | true =>
                    haveI := Aft.some w8
                    refine wp_region_class (Aft w8) (by kernel_rfl) (by kernel_rfl) (Aft.start w8) ?_
                    repeat (go_big_quiet_step (fail))
                    refine wpQuiet_nil ?_
                    rintro _ ⟨nn, rfl⟩
                    have hb9 : Below w8.heap.size w8 (HeldW nn) := HeldW_spec nn
                    clear e0 t0 t1 t2 t3 r0 u0 u1 u2 u3
                    generalize (HeldW nn : World) = w9 at *
                    have H9 := Lib.hid hb9
                    clear hb9
                    have hstp : inF p (j + 1) = none := by rw [inF_step, HRR.out]; simp only; rw [if_neg (by rw [HPJ.out, HTJ.out]; simp)]
                    have HSP := Lib.hid hstp
                    clear hstp
                    go_wp2_with fail
                    go_roundw
                    case rel =>
                      refine ⟨j + 1, by go_num, by omega, ?_⟩
                      rw [HSP.out]
                      refine ⟨rfl, by unfold OwnK41; rw [HMX.out]; exact own_kept HI8.out.1 H9.out, World.rowIs.of_block HI8.out.2.1 (H9.out.block tb (World.rowIs.lt HI8.out.2.1)), HI8.out.2.2.1.trans (H9.out.mono HI8.out.2.2.1.size), fun h => ⟨(HI8.out.2.2.2 h).1.below H9.out (HI8.out.2.2.2 h).1.lt, (HI8.out.2.2.2 h).2.below H9.out (HI8.out.2.2.2 h).2.lt⟩⟩
                    case measure => simp [intOf]; omega
                  | false =>
                    by_cases hk2 : kj = 2
                    · subst hk2
                      by_cases hm1 : mk = 1
                      · subst hm1
                        cases D with
                        | true =>
                          haveI := Aft.some w8
                          refine wp_region_class (Aft w8) (by kernel_rfl) (by kernel_rfl) (Aft.start w8) ?_
                          repeat (go_big_quiet_step (first | with_reducible exact held_below Aft.keep (HPX.out _) | with_reducible exact held_below Aft.keep (HPYY.out _)))
                          refine wpQuiet_nil ?_
                          rintro _ ⟨nn, rfl⟩
                          have hb9 : Below w8.heap.size w8 (HeldW nn) := HeldW_spec nn
                          clear e0 t0 t1 t2 t3 r0 u0 u1 u2 u3
                          generalize (HeldW nn : World) = w9 at *
                          have H9 := Lib.hid hb9
                          clear hb9
                          have hstp : inF p (j + 1) = some j := by rw [inF_step, HRR.out]; simp only; rw [if_pos (by rw [HPJ.out, HTJ.out]; rfl)]
                          have HSP := Lib.hid hstp
                          clear hstp
                          have hr9 : RowB w9 tb n st.1 := World.rowIs.of_block HI8.out.2.1 (H9.out.block tb (World.rowIs.lt HI8.out.2.1))
                          have hc9 := World.rowIs.cell hr9 hlj
                          have hf9 := World.rowIs.frozen hr9 j
                          have ho9 := own_kept HI8.out.1 H9.out
                          have hb19 := HI8.out.2.2.1.trans (H9.out.mono HI8.out.2.2.1.size)
                          have hC9 := (HI8.out.2.2.2 rfl).1.below H9.out (HI8.out.2.2.2 rfl).1.lt
                          have hO9 := HO8.out.1.below H9.out HO8.out.1.lt
                          have H99 := Lib.hid (And.intro hr9 (And.intro ho9 (And.intro hb19 (And.intro hC9 hO9))))
                          clear hr9 ho9 hb19 hC9 hO9
                          go_upto_region 17 with fail
                          clear hc9 hf9
                          have hbt : w1.heap.size ≤ tb := Nat.le_of_eq HTB.out
                          obtain ⟨cr, hcr, -, -⟩ := H99.out.1
                          have hcrB : Blk w9 tb 4 cr := hcr
                          have hget : w9.grownBy (w9.setCell ⟨tb, j, none⟩ (.bool true)) (some tb) := grown_put (grown_refl w9 (some tb)) j _
                          have hne1 : cb ≠ tb := fun e => by
                            have h1 := H99.out.2.2.2.1
                            rw [e] at h1
                            unfold Blk at h1 hcrB
                            rw [hcrB] at h1
                            injection h1 with h1
                            injection h1 with _ h1
                            exact absurd h1 (by decide)
                          have hne2 : ob ≠ tb := fun e => by
                            have h1 := H99.out.2.2.2.2
                            rw [e] at h1
                            unfold Blk at h1 hcrB
                            rw [hcrB] at h1
                            injection h1 with h1
                            injection h1 with _ h1
                            exact absurd h1 (by decide)
                          have hown10 := World.ownsRow.kept H99.out.2.1 hget (.inr (own_ne_blk H99.out.2.1 hcrB (by decide)))
                          have hC10 := H99.out.2.2.2.1.grown hget (fun e => hne1 (by simpa using e))
                          have hO10 := H99.out.2.2.2.2.grown hget (fun e => hne2 (by simpa using e))
                          have hr10 := RowB.set (h := fun j' => if j' = j then true else st.1 j') j true H99.out.1 (fun j' _ => rfl)
                          have hb110 := H99.out.2.2.1.setCell (p := ⟨tb, j, none⟩) hbt (.bool true)
                          obtain ⟨w10, hw10⟩ : ∃ w10, w9.setCell ⟨tb, j, none⟩ (.bool true) = w10 := ⟨_, rfl⟩
                          rw [hw10] at hown10 hC10 hO10 hr10 hb110 ⊢
                          have y1 := hC10.cell 1
                          have y2 := hO10.cell 1
                          simp only [List.getElem?_toArray, List.getElem?_cons_succ, List.getElem?_cons_zero] at y1 y2
                          have hs10 := hb110.size
                          have H10 := Lib.hid (And.intro hown10 (And.intro hr10 hb110))
                          clear hcr hcrB hget hne1 hne2 hown10 hC10 hO10 hr10 hb110 hw10 hbt
                          go_wp2_with (at_builtin; refine wpList_app rfl _ _ 38 rfl w1.heap.size 41 (.agg #[.int .i64 0, .string ⟨#[]⟩, .string ⟨#[]⟩]) 3 40 Tryz.underlying38 infoC41 rfl (by decide) _ mx _ rfl (H10.out.1.alloc _) w10.heap.size 1 #[.int .i64 4, .string q, .string qj] 41 rfl (Blk.new _ _ _) rfl (by simp [Value.oneCell']) (by omega) (by decide) (by simp; omega) _ rfl ?_; intro g cap X hown1 hgrow1 hat hlt1)
                          have hrX : RowB X tb n (fun j' => if j' = j then true else st.1 j') := by
                            have h1 := World.rowIs.alloc H10.out.2.1 (.cells #[.int .i64 4, .string q, .string qj] 41)
                            obtain ⟨cr, hcr, -, -⟩ := id h1
                            exact World.rowIs.of_block h1 (hgrow1.block tb (World.rowIs.lt h1) (fun e => own_ne_blk (H10.out.1.alloc (.cells #[.int .i64 4, .string q, .string qj] 41)) (show Blk _ tb 4 cr from hcr) (by decide) e.symm))
                          have HNX := Lib.hid (And.intro (OwnK41.app (x := ((4 : Int), q, qj)) hown1 HMX.out) (And.intro hrX (own_below H10.out.1 (H10.out.2.2.alloc H10.out.2.2.size _) hgrow1 (Nat.le_refl _) (by simp; omega))))
                          clear hown1 hgrow1 hat hlt1 hrX y1 y2
                          go_wp2_with fail
                          go_roundw
                          case rel =>
                            refine ⟨j + 1, by go_num, by omega, ?_⟩
                            rw [HSP.out]
                            have hmv : mvO (stI L st (1, q) (some j)).2 = mvO (stI L st (1, q) none).2 ++ [((4 : Int), q, qj)] := by
                              show mvO (st.2 ++ [(q, (L.getD j (0, ⟨#[]⟩)).2)]) = mvO st.2 ++ _
                              rw [HGD.out]
                              unfold mvO
                              rw [List.map_append]
                              rfl
                            refine ⟨rfl, by rw [hmv]; exact HNX.out.1, HNX.out.2.1, HNX.out.2.2, fun h => by cases h⟩
                          case measure => simp [intOf]; omega
                        | false =>
                          haveI := Aft.some w8
                          refine wp_region_class (Aft w8) (by kernel_rfl) (by kernel_rfl) (Aft.start w8) ?_
                          repeat (go_big_quiet_step (first | with_reducible exact held_below Aft.keep (HPX.out _) | with_reducible exact held_below Aft.keep (HPYY.out _)))
                          refine wpQuiet_nil ?_
                          rintro _ ⟨nn, rfl⟩
                          have hb9 : Below w8.heap.size w8 (HeldW nn) := HeldW_spec nn
                          clear e0 t0 t1 t2 t3 r0 u0 u1 u2 u3
                          generalize (HeldW nn : World) = w9 at *
                          have H9 := Lib.hid hb9
                          clear hb9
                          have hstp : inF p (j + 1) = none := by rw [inF_step, HRR.out]; simp only; rw [if_neg (by rw [HPJ.out, HTJ.out]; simp)]
                          have HSP := Lib.hid hstp
                          clear hstp
                          go_wp2_with fail
                          go_roundw
                          case rel =>
                            refine ⟨j + 1, by go_num, by omega, ?_⟩
                            rw [HSP.out]
                            refine ⟨rfl, by unfold OwnK41; rw [HMX.out]; exact own_kept HI8.out.1 H9.out, World.rowIs.of_block HI8.out.2.1 (H9.out.block tb (World.rowIs.lt HI8.out.2.1)), HI8.out.2.2.1.trans (H9.out.mono HI8.out.2.2.1.size), fun h => ⟨(HI8.out.2.2.2 h).1.below H9.out (HI8.out.2.2.2 h).1.lt, (HI8.out.2.2.2 h).2.below H9.out (HI8.out.2.2.2 h).2.lt⟩⟩
                          case measure => simp [intOf]; omega
                      · have tm1 : (mk == 1) = false := by simpa using hm1
                        have HM1 := Lib.hid hm1
                        clear hm1
                        haveI := Aft.some w8
                        refine wp_region_class (Aft w8) (by kernel_rfl) (by kernel_rfl) (Aft.start w8) ?_
                        repeat (go_big_quiet_step (fail))
                        refine wpQuiet_nil ?_
                        rintro _ ⟨nn, rfl⟩
                        have hb9 : Below w8.heap.size w8 (HeldW nn) := HeldW_spec nn
                        clear e0 t0 t1 t2 t3 r0 u0 u1 u2 u3
                        generalize (HeldW nn : World) = w9 at *
                        have H9 := Lib.hid hb9
                        clear hb9
                        have hstp : inF p (j + 1) = none := by rw [inF_step, HRR.out]; simp only; rw [if_neg (by rw [HPJ.out, HTJ.out]; simp [HM1.out])]
                        have HSP := Lib.hid hstp
                        clear hstp
                        go_wp2_with fail
                        go_roundw
                        case rel =>
                          refine ⟨j + 1, by go_num, by omega, ?_⟩
                          rw [HSP.out]
                          refine ⟨rfl, by unfold OwnK41; rw [HMX.out]; exact own_kept HI8.out.1 H9.out, World.rowIs.of_block HI8.out.2.1 (H9.out.block tb (World.rowIs.lt HI8.out.2.1)), HI8.out.2.2.1.trans (H9.out.mono HI8.out.2.2.1.size), fun h => ⟨(HI8.out.2.2.2 h).1.below H9.out (HI8.out.2.2.2 h).1.lt, (HI8.out.2.2.2 h).2.below H9.out (HI8.out.2.2.2 h).2.lt⟩⟩
                        case measure => simp [intOf]; omega
                    · have tk2 : (kj == 2) = false := by simpa using hk2
                      have HK2 := Lib.hid hk2
                      clear hk2
                      haveI := Aft.some w8
                      refine wp_region_class (Aft w8) (by kernel_rfl) (by kernel_rfl) (Aft.start w8) ?_
                      repeat (go_big_quiet_step (fail))
                      refine wpQuiet_nil ?_
                      rintro _ ⟨nn, rfl⟩
                      have hb9 : Below w8.heap.size w8 (HeldW nn) := HeldW_spec nn
                      clear e0 t0 t1 t2 t3 r0 u0 u1 u2 u3
                      generalize (HeldW nn : World) = w9 at *
                      have H9 := Lib.hid hb9
                      clear hb9
                      have hstp : inF p (j + 1) = none := by rw [inF_step, HRR.out]; simp only; rw [if_neg (by rw [HPJ.out, HTJ.out]; simp [HK2.out])]
                      have HSP := Lib.hid hstp
                      clear hstp
                      go_wp2_with fail
                      go_roundw
                      case rel =>
                        refine ⟨j + 1, by go_num, by omega, ?_⟩
                        rw [HSP.out]
                        refine ⟨rfl, by unfold OwnK41; rw [HMX.out]; exact own_kept HI8.out.1 H9.out, World.rowIs.of_block HI8.out.2.1 (H9.out.block tb (World.rowIs.lt HI8.out.2.1)), HI8.out.2.2.1.trans (H9.out.mono HI8.out.2.2.1.size), fun h => ⟨(HI8.out.2.2.2 h).1.below H9.out (HI8.out.2.2.2 h).1.lt, (HI8.out.2.2.2 h).2.below H9.out (HI8.out.2.2.2 h).2.lt⟩⟩
                      case measure => simp [intOf]; omega
              · obtain rfl : j = n := by omega
                have hfin := HST2.out.1
                rw [HN.out] at hfin
                obtain ⟨fo, hfo⟩ : ∃ fo, (inF p j).isSome = fo := ⟨_, rfl⟩
                rw [hfo]
                obtain ⟨mx, hmx⟩ : ∃ z, (mvO (stI L st (1, q) (inF p j)).2).length = z := ⟨_, rfl⟩
                have HE := Lib.hid (And.intro hfin (And.intro ho (And.intro hrow hb)))
                obtain ⟨A7, k7, rfl, _, _, _⟩ := SlV_of_any ho
                rw [hmx] at HE ⊢
                clear ho hrow hb hfin hfo hnn hmx
                go_wp2_with fail
                go_roundw
                case rel => exact ⟨i + 1, by go_num, by omega, by rw [HE.out.1]; exact HE.out.2.1, by rw [HE.out.1]; exact HE.out.2.2.1, HE.out.2.2.2⟩
                case measure => simp [intOf]; omega
        · have ta : (ak != 1) = true := by simpa using ha
          have HA := Lib.hid ha
          subst hk
          clear ha
          have hcmf : isCame ys (1, q) = false := by rw [HCM.out]; unfold fileN; simp [HA.out]
          have hst := HST.out.1
          rw [HST.out.2.2 hcmf] at hst
          have HS2 := Lib.hid hst
          clear hst hcmf
          go_wp2_with fail
          go_roundw
          case rel => exact ⟨i + 1, by go_num, by omega, by rw [HS2.out]; unfold OwnK41; rw [HMM.out]; exact H5.out.1, by rw [HS2.out]; exact H5.out.2.1, H5.out.2.2.1⟩
          case measure => simp [intOf]; omega
      · have tk : (kk != 1) = true := by simpa using hk
        have HK := Lib.hid hk
        clear hk
        have hcmf : isCame ys (kk, q) = false := by rw [HCM.out]; rw [decide_eq_false HK.out]; rfl
        have hst := HST.out.1
        rw [HST.out.2.2 hcmf] at hst
        have HS2 := Lib.hid hst
        clear hst hcmf
        go_wp2_with fail
        go_roundw
        case rel => exact ⟨i + 1, by go_num, by omega, by rw [HS2.out]; unfold OwnK41; rw [HMM.out]; exact H5.out.1, by rw [HS2.out]; exact H5.out.2.1, H5.out.2.2.1⟩
        case measure => simp [intOf]; omega
    · obtain rfl : i = n := by omega
      have hf : L.take i = L := List.take_of_length_le (by have := HN.out; omega)
      rw [hf] at ho
      obtain ⟨mz, hmz⟩ : ∃ z, (mvO (L.foldl (tkStep xs ys L) (fun _ => false, [])).2).length = z := ⟨_, rfl⟩
      have HF := Lib.hid (And.intro (own_wide ho hs1) hbw)
      obtain ⟨A4, k4, rfl, _, _, _⟩ := SlV_of_any ho
      rw [hmz] at HF ⊢
      have HMZ := Lib.hid hmz
      clear ho hrow hb hf hbw hmz
      go_wp2_with fail
      go_ret
      exact ⟨_, rfl, by unfold OwnK41; rw [HMZ.out]; exact HF.out.1, HF.out.2⟩
end Go.Proofs.YtihiakkeloejlaaGreatDoor
