/- Several texts, joined for the limit of sixty files; each one opens with its own comment. -/
import Derived.Test.YtihiakkeloejlaaGreatDoorJoin34
import Derived.Test.YtihiakkeloejlaaGreatDoorJoin21
import Derived.Test.YtihiakkeloejlaaGreatDoorJoin20
import Derived.Test.YtihiakkeloejlaaGreatDoorJoin15
import Derived.Test.YtihiakkeloejlaaGreatDoorJoin22
import Derived.Test.YtihiakkeloejlaaGreatDoorJoin1
import Derived.Test.YtihiakkeloejlaaGreatDoorChecked
import Derived.Deep.OwnRows
/- The document's Each of layer 41. -/
set_option linter.unusedVariables false
set_option linter.unusedSimpArgs false
namespace Sw
def eO (c : ChE) : Int × ByteArray × ByteArray := (c.1, c.2, ⟨#[]⟩)
/-- how two trees differ, as changes -/
def eachO (xs ys : List NE) : List (Int × ByteArray × ByteArray) := (eachP xs ys).map eO
def partO (xs ys : List NE) (ps : List ByteArray) : List (Int × ByteArray × ByteArray) := (ps.filterMap (eachE xs ys)).map eO
theorem partO_step (xs ys : List NE) (ps : List ByteArray) (i : Nat) (h : i < ps.length) : partO xs ys (ps.take (i + 1)) = partO xs ys (ps.take i) ++ if kindP (getT xs ps[i]) (getT ys ps[i]) = 0 then [] else [(kindP (getT xs ps[i]) (getT ys ps[i]), ps[i], ⟨#[]⟩)] := by
  unfold partO
  rw [List.take_succ_eq_append_getElem h, List.filterMap_append, List.map_append]
  congr 1
  by_cases hk : kindP (getT xs ps[i]) (getT ys ps[i]) = 0
  · rw [if_pos hk]
    simp [eachE, hk]
  · rw [if_neg hk]
    simp [eachE, hk, eO]
theorem partO_len (xs ys : List NE) (ps : List ByteArray) : (partO xs ys ps).length ≤ ps.length := by
  unfold partO
  rw [List.length_map]
  exact List.length_filterMap_le _ _
end Sw
namespace Go.Proofs.YtihiakkeloejlaaGreatDoor
open Go Go.RowKit
open Sw
theorem getT_szE {xs : List NE} {p : ByteArray} {n : Nat} (hu : Up ordS xs) (h : ∀ e ∈ xs, e.2.data.size ≤ n) : (getT xs p).data.size ≤ n := by
  rcases Classical.em (∃ e ∈ xs, e.1 = p) with ⟨e, he, rfl⟩ | hn
  · rw [getT_in hu he]; exact h e he
  · rw [getT_out hu (fun e he h => hn ⟨e, he, h⟩)]; exact Nat.zero_le _
set_option maxRecDepth 100000 in
set_option maxHeartbeats 8000000 in
theorem refEach41_any (w : World) (v1 v2 : Value) (xs ys : List NE) (g1 : SlV w 5 eCSN v1 xs) (g2 : SlV w 5 eCSN v2 ys) (hm1 : xs.length ≤ 100) (hm2 : ys.length ≤ 100) (hz : ∀ m ∈ xs ++ ys, m.1.size ≤ 90000) (hup : Up ordS xs) (hup2 : Up ordS ys) (hxd : ∀ e ∈ xs, e.2.data.size ≤ maxLen) (hyd : ∀ e ∈ ys, e.2.data.size ≤ maxLen) :
    Calls Tryz.prog 12 #[v1, v2] w fun e w' => ∃ u, e = .returned u ∧ OwnK41 w' w.heap.size u (eachO xs ys) ∧ Below w.heap.size w w' := by
  have hnil : SlV w 6 eCM (.slice none 0 0) [] := ⟨none, 0, rfl, Nat.le_refl _, by unfold maxLen; omega, SlOf.nil _ _ _ _⟩
  have hpp := refPathsP_any w (.slice none 0 0) (.slice none 0 0) [] [] hnil hnil (by simp) (by simp) (by simp) v1 v2 xs ys g1 g2 hm1 hm2 hz
  have hpe : (([] ++ [] : List MkE).map Prod.fst ++ (xs ++ ys).map Prod.fst) = xs.map Prod.fst ++ ys.map Prod.fst := by simp
  rw [hpe] at hpp
  have hpl : (pathsS (xs.map Prod.fst ++ ys.map Prod.fst)).length ≤ 200 := Nat.le_trans (pathsS_len _) (by simp only [List.length_append, List.length_map]; omega)
  have hans : eachO xs ys = partO xs ys (pathsS (xs.map Prod.fst ++ ys.map Prod.fst)) := rfl
  unfold PathsAns at hpp
  rw [hans]
  obtain ⟨ps, hps⟩ : ∃ ps, pathsS (xs.map Prod.fst ++ ys.map Prod.fst) = ps := ⟨_, rfl⟩
  rw [hps] at hpp hpl ⊢
  have HP := Lib.hid hpp
  have H0 := Lib.hid (And.intro g1 g2)
  have HX := Lib.hid (And.intro (And.intro hup hxd) (And.intro hup2 hyd))
  obtain ⟨A1, c1, rfl, _, _, _⟩ := g1
  obtain ⟨A2, c2, rfl, _, _, _⟩ := g2
  obtain ⟨n3, hn3⟩ : ∃ n, xs.length = n := ⟨_, rfl⟩
  obtain ⟨n4, hn4⟩ : ∃ n, ys.length = n := ⟨_, rfl⟩
  simp only [hn3, hn4] at HP H0 ⊢
  clear hnil hz hup hup2 hxd hyd hpp hps hans hpe hn3 hn4
  go_enter Tryz.func12, Tryz.ntmps12
  go_wp2_with fail
  refine HP.out.mono ?_
  rintro e w1 ⟨⟨u, rfl, ho⟩, hb1⟩
  have hslu := ho.slv
  unfold OwnS at ho
  obtain ⟨A3, k3, rfl, hk3, -, -⟩ := SlV_of_any ho
  have H1 := Lib.hid (And.intro hslu hb1)
  have hs1 := hb1.size
  obtain ⟨n, hn⟩ : ∃ n, ps.length = n := ⟨_, rfl⟩
  rw [hn] at H1 hpl hk3
  rw [hn]
  have HN := Lib.hid hn
  clear ho hb1 hn HP hslu
  go_wp2_with fail
  go_loopw [5, 16] (fun o iv wr => ∃ i : Nat, iv = .int .i64 i ∧ i ≤ n ∧ OwnK41 wr w1.heap.size o (partO xs ys (ps.take i)) ∧ Below w1.heap.size w1 wr) (fun _ iv _ => n - (intOf iv).toNat)
  case atStart => exact ⟨0, rfl, Nat.zero_le _, World.ownsRow_nil _ _ _ _, Below.refl _ _⟩
  case round =>
    obtain ⟨i, rfl, hi, ho, hb⟩ := hrel
    have hbw := H1.out.2.trans (hb.mono hs1)
    have hbs := hbw.size
    by_cases hlt : i < n
    · have hiL : i < ps.length := by have := HN.out; omega
      obtain ⟨A', c', hA', _, _, hso⟩ := H1.out.1.below hb (Nat.le_refl _)
      obtain ⟨rfl, rfl⟩ : A3 = A' ∧ k3 = c' := by injection hA' with e1 e2 e3; exact ⟨e1, e3⟩
      clear hA'
      obtain ⟨b, off, rfl, hbb, hcs⟩ := hso (by omega)
      have c0 := hcs i hiL 0 (by omega)
      simp only [sE, List.getElem?_cons_zero, Nat.add_zero, Nat.mul_one] at c0
      clear hcs hso
      have hi1 : (i : Int) < n := by omega
      have hst := partO_step xs ys ps i hiL
      have hml : (partO xs ys (ps.take i)).length ≤ 200 := by have := partO_len xs ys (ps.take i); rw [List.length_take] at this; omega
      obtain ⟨q, hx⟩ : ∃ x, ps[i] = x := ⟨_, rfl⟩
      simp only [hx] at c0 hst
      clear hx
      have hg1 := fun W (hW : Below w.heap.size w W) => (show Calls Tryz.prog 35 #[.slice A1 n3 c1, .string q] W fun e w' => e = .returned (.agg (getT xs q).c) ∧ Below W.heap.size W w' from by
        have := ref16Get_any W _ xs q (H0.out.1.below hW (Nat.le_refl _))
        rw [refGetT_eq xs q HX.out.1.1] at this
        exact this)
      have hg2 := fun W (hW : Below w.heap.size w W) => (show Calls Tryz.prog 35 #[.slice A2 n4 c2, .string q] W fun e w' => e = .returned (.agg (getT ys q).c) ∧ Below W.heap.size W w' from by
        have := ref16Get_any W _ ys q (H0.out.2.below hW (Nat.le_refl _))
        rw [refGetT_eq ys q HX.out.2.1] at this
        exact this)
      have hs1' := getT_szE (p := q) HX.out.1.1 HX.out.1.2
      have hs2' := getT_szE (p := q) HX.out.2.1 HX.out.2.2
      have hpx := fun W => refPrint_any W (getT xs q) hs1'
      have hpy := fun W => refPrint_any W (getT ys q) hs2'
      have hEQ := fun W => eq_print (printN (getT xs q)) (printN (getT ys q)) W
      have hkd : kindP (getT xs q) (getT ys q) = if printN (getT xs q) = printN (getT ys q) then 0 else if (getT xs q).kind = 0 then 1 else if (getT ys q).kind = 0 then 2 else if (getT xs q).kind = (getT ys q).kind then 3 else 5 := rfl
      generalize kindP (getT xs q) (getT ys q) = kk at *
      generalize getT xs q = nd1 at *
      generalize getT ys q = nd2 at *
      obtain ⟨pr1, hp1⟩ : ∃ p, printN nd1 = p := ⟨_, rfl⟩
      obtain ⟨pr2, hp2⟩ : ∃ p, printN nd2 = p := ⟨_, rfl⟩
      simp only [hp1] at hpx hEQ hkd
      simp only [hp2] at hpy hEQ hkd
      clear hp1 hp2 hs1' hs2'
      obtain ⟨D, hD⟩ : ∃ D, decide (pr1 = pr2) = D := ⟨_, rfl⟩
      have hD2 : (pr1 = pr2) ↔ D = true := by rw [← hD]; simp
      simp only [hD] at hEQ
      simp only [hD2] at hkd
      clear hD hD2
      obtain ⟨fa, fb, fc, fd, fs⟩ := pr1
      obtain ⟨ga, gb, gc, gd, gs⟩ := pr2
      obtain ⟨ak, am, at', ad⟩ := nd1
      obtain ⟨ck, cm, ct, cd⟩ := nd2
      simp only [Pr.c, Nd.c] at hg1 hg2 hpx hpy hEQ
      have HG1 := Lib.hid hg1
      have HG2 := Lib.hid hg2
      have HPX := Lib.hid hpx
      have HPY := Lib.hid hpy
      have HKD := Lib.hid hkd
      obtain ⟨F, hF⟩ : ∃ F, partO xs ys (ps.take i) = F := ⟨_, rfl⟩
      rw [hF] at ho hml hst
      obtain ⟨A4, k4, rfl, _, _, _⟩ := SlV_of_any ho
      have HO := Lib.hid ho
      have HR := Lib.hid (And.intro hst (And.intro hb hbw))
      obtain ⟨m, hm⟩ : ∃ m, F.length = m := ⟨_, rfl⟩
      unfold OwnK41 at HO
      rw [hm] at HO hml ⊢
      have HM := Lib.hid hm
      clear hg1 hg2 hpx hpy hkd ho hb hst hbw hF hm
      go_wp2_with fail
      refine (HG1.out wr HR.out.2.2).mono ?_
      rintro e w2 ⟨rfl, hb2⟩
      have H2 := Lib.hid (And.intro (HR.out.2.2.trans (hb2.mono hbs)) hb2)
      clear hb2 HG1
      go_wp2_with fail
      refine (HG2.out w2 H2.out.1).mono ?_
      rintro e w3 ⟨rfl, hb3⟩
      have H3 := Lib.hid (H2.out.2.trans (hb3.mono H2.out.2.size))
      clear hb3 HG2 H2
      go_upto_region 6 with fail
      have hba : Below w3.heap.size w3 ((w3.alloc (.cells #[.int .i64 ak, .int .i64 am, .int .u32 at', .string ad] 54)).alloc (.cells #[.int .i64 ck, .int .i64 cm, .int .u32 ct, .string cd] 54)) := ((Below.refl _ w3).alloc (Nat.le_refl _) _).alloc (by simp) _
      have hBa : Blk ((w3.alloc (.cells #[.int .i64 ak, .int .i64 am, .int .u32 at', .string ad] 54)).alloc (.cells #[.int .i64 ck, .int .i64 cm, .int .u32 ct, .string cd] 54)) w3.heap.size 54 #[.int .i64 ak, .int .i64 am, .int .u32 at', .string ad] := blk_fst _ _ _ _
      have hBb : Blk ((w3.alloc (.cells #[.int .i64 ak, .int .i64 am, .int .u32 at', .string ad] 54)).alloc (.cells #[.int .i64 ck, .int .i64 cm, .int .u32 ct, .string cd] 54)) (w3.heap.size + 1) 54 #[.int .i64 ck, .int .i64 cm, .int .u32 ct, .string cd] := blk_snd _ _ _ _
      generalize (w3.alloc (.cells #[.int .i64 ak, .int .i64 am, .int .u32 at', .string ad] 54)).alloc (.cells #[.int .i64 ck, .int .i64 cm, .int .u32 ct, .string cd] 54) = w5 at *
      generalize w3.heap.size + 1 = Gb at *
      have hb5 := H3.out.trans (hba.mono H3.out.size)
      generalize w3.heap.size = Ga at *
      have H5 := Lib.hid (And.intro hb5 (And.intro hBa hBb))
      have x0 := hBa.cell 0
      have x1 := hBa.cell 1
      have x2 := hBa.cell 2
      have x3 := hBa.cell 3
      have y0 := hBb.cell 0
      have y1 := hBb.cell 1
      have y2 := hBb.cell 2
      have y3 := hBb.cell 3
      simp only [List.getElem?_toArray, List.getElem?_cons_succ, List.getElem?_cons_zero] at x0 x1 x2 x3 y0 y1 y2 y3
      have hla := hBa.lt
      have hlb := hBb.lt
      have k0 : ∀ m : Held (Aft w5), (HeldW m).cell? ⟨Ga, 0, none⟩ = some (.int .i64 ak) := fun m => (Aft.cell m hla).trans x0
      have k1 : ∀ m : Held (Aft w5), (HeldW m).cell? ⟨Ga, 1, none⟩ = some (.int .i64 am) := fun m => (Aft.cell m hla).trans x1
      have k2 : ∀ m : Held (Aft w5), (HeldW m).cell? ⟨Ga, 2, none⟩ = some (.int .u32 at') := fun m => (Aft.cell m hla).trans x2
      have k3 : ∀ m : Held (Aft w5), (HeldW m).cell? ⟨Ga, 3, none⟩ = some (.string ad) := fun m => (Aft.cell m hla).trans x3
      have j0 : ∀ m : Held (Aft w5), (HeldW m).cell? ⟨Gb, 0, none⟩ = some (.int .i64 ck) := fun m => (Aft.cell m hlb).trans y0
      have j1 : ∀ m : Held (Aft w5), (HeldW m).cell? ⟨Gb, 1, none⟩ = some (.int .i64 cm) := fun m => (Aft.cell m hlb).trans y1
      have j2 : ∀ m : Held (Aft w5), (HeldW m).cell? ⟨Gb, 2, none⟩ = some (.int .u32 ct) := fun m => (Aft.cell m hlb).trans y2
      have j3 : ∀ m : Held (Aft w5), (HeldW m).cell? ⟨Gb, 3, none⟩ = some (.string cd) := fun m => (Aft.cell m hlb).trans y3
      haveI := Aft.some w5
      clear hba hBa hBb hb5 H3 x0 x1 x2 x3 y0 y1 y2 y3 hla hlb
      refine wp_region_class (Aft w5) (by kernel_rfl) (by kernel_rfl) (Aft.start w5) ?_
      repeat (go_big_quiet_step (first | with_reducible exact held_below Aft.keep (HPX.out _) | with_reducible exact held_below Aft.keep (HPY.out _)))
      refine wpQuiet_nil ?_
      rintro _ ⟨nn, rfl⟩
      have hb6 : Below w5.heap.size w5 (HeldW nn) := HeldW_spec nn
      have x0 := k0 nn
      have y0 := j0 nn
      have hl6a : Ga < (HeldW nn : World).heap.size := Nat.lt_of_lt_of_le H5.out.2.1.lt hb6.size
      have hl6b : Gb < (HeldW nn : World).heap.size := Nat.lt_of_lt_of_le H5.out.2.2.lt hb6.size
      clear k0 k1 k2 k3 j0 j1 j2 j3 HPX HPY
      generalize (HeldW nn : World) = w6 at *
      have H6 := Lib.hid ((HR.out.2.1.trans (H5.out.1.mono HR.out.2.1.size)).trans (hb6.mono (HR.out.2.1.trans (H5.out.1.mono HR.out.2.1.size)).size))
      have HO6 := Lib.hid (own_kept HO.out (H5.out.1.trans (hb6.mono H5.out.1.size)))
      have HST := Lib.hid HR.out.1
      clear hb6 HR HO H5
      cases D with
      | true =>
        have hkk : kk = 0 := by rw [HKD.out]; rfl
        have hst := HST.out
        rw [if_pos hkk, List.append_nil] at hst
        have HS2 := Lib.hid hst
        clear hst
        go_wp2_with fail
        go_roundw
        case rel => exact ⟨i + 1, by go_num, by omega, by rw [HS2.out]; unfold OwnK41; rw [HM.out]; exact HO6.out, H6.out⟩
        case measure => simp [intOf]; omega
      | false =>
        by_cases ha : ak = 0
        · have ta : (ak == 0) = true := by simpa using ha
          have HIFS := Lib.hid ha
          clear ha
          obtain ⟨w8, hw8⟩ : ∃ w8, w6.alloc (.cells #[.int .i64 1, .string q, .string ⟨#[]⟩] 41) = w8 := ⟨_, rfl⟩
          have hb8 : Below w6.heap.size w6 w8 := by rw [← hw8]; exact (Below.refl _ w6).alloc (Nat.le_refl _) _
          have hB8 : Blk w8 w6.heap.size 41 #[.int .i64 1, .string q, .string ⟨#[]⟩] := by rw [← hw8]; exact Blk.new _ _ _
          have HO8 := Lib.hid (own_kept HO6.out hb8)
          have HB8 := Lib.hid (H6.out.trans (hb8.mono H6.out.size))
          have hs8 := HB8.out.size
          have z0 := hB8.cell 0
          have z1 := hB8.cell 1
          have z2 := hB8.cell 2
          simp only [List.getElem?_toArray, List.getElem?_cons_succ, List.getElem?_cons_zero] at z0 z1 z2
          have hst := HST.out
          rw [show kk = 1 from by rw [HKD.out]; simp [HIFS.out]] at hst
          have hst2 := hst
          rw [if_neg (by decide)] at hst2
          have HS2 := Lib.hid hst2
          clear hB8 hst hst2
          go_upto_region 14 with fail
          clear hw8
          go_wp2_with (at_builtin; refine wpList_app rfl _ _ 38 rfl w1.heap.size 41 (.agg #[.int .i64 0, .string ⟨#[]⟩, .string ⟨#[]⟩]) 3 40 Tryz.underlying38 infoC41 rfl (by decide) _ m _ rfl (HO8.out.alloc _) w8.heap.size 1 #[.int .i64 1, .string q, .string ⟨#[]⟩] 41 rfl (Blk.new _ _ _) rfl (by simp [Value.oneCell']) (by omega) (by decide) (by simp; omega) _ rfl ?_; intro g cap w9 hown1 hgrow1 hat hlt1)
          have HNX := Lib.hid (And.intro (OwnK41.app (x := ((1 : Int), q, ⟨#[]⟩)) hown1 HM.out) (own_below HO8.out (HB8.out.alloc HB8.out.size _) hgrow1 (Nat.le_refl _) (by simp; omega)))
          clear hown1 hgrow1 hat hlt1
          go_wp2_with fail
          go_roundw
          case rel => exact ⟨i + 1, by go_num, by omega, by rw [HS2.out]; exact HNX.out.1, HNX.out.2⟩
          case measure => simp [intOf]; omega
        · have ta : (ak == 0) = false := by simpa using ha
          by_cases hc : ck = 0
          · have tc : (ck == 0) = true := by simpa using hc
            have HIFS := Lib.hid (And.intro ha hc)
            clear ha hc
            obtain ⟨w8, hw8⟩ : ∃ w8, w6.alloc (.cells #[.int .i64 2, .string q, .string ⟨#[]⟩] 41) = w8 := ⟨_, rfl⟩
            have hb8 : Below w6.heap.size w6 w8 := by rw [← hw8]; exact (Below.refl _ w6).alloc (Nat.le_refl _) _
            have hB8 : Blk w8 w6.heap.size 41 #[.int .i64 2, .string q, .string ⟨#[]⟩] := by rw [← hw8]; exact Blk.new _ _ _
            have HO8 := Lib.hid (own_kept HO6.out hb8)
            have HB8 := Lib.hid (H6.out.trans (hb8.mono H6.out.size))
            have hs8 := HB8.out.size
            have z0 := hB8.cell 0
            have z1 := hB8.cell 1
            have z2 := hB8.cell 2
            simp only [List.getElem?_toArray, List.getElem?_cons_succ, List.getElem?_cons_zero] at z0 z1 z2
            have hst := HST.out
            rw [show kk = 2 from by rw [HKD.out]; simp [HIFS.out]] at hst
            have hst2 := hst
            rw [if_neg (by decide)] at hst2
            have HS2 := Lib.hid hst2
            clear hB8 hst hst2
            go_upto_region 14 with fail
            clear hw8
            go_wp2_with (at_builtin; refine wpList_app rfl _ _ 38 rfl w1.heap.size 41 (.agg #[.int .i64 0, .string ⟨#[]⟩, .string ⟨#[]⟩]) 3 40 Tryz.underlying38 infoC41 rfl (by decide) _ m _ rfl (HO8.out.alloc _) w8.heap.size 1 #[.int .i64 2, .string q, .string ⟨#[]⟩] 41 rfl (Blk.new _ _ _) rfl (by simp [Value.oneCell']) (by omega) (by decide) (by simp; omega) _ rfl ?_; intro g cap w9 hown1 hgrow1 hat hlt1)
            have HNX := Lib.hid (And.intro (OwnK41.app (x := ((2 : Int), q, ⟨#[]⟩)) hown1 HM.out) (own_below HO8.out (HB8.out.alloc HB8.out.size _) hgrow1 (Nat.le_refl _) (by simp; omega)))
            clear hown1 hgrow1 hat hlt1
            go_wp2_with fail
            go_roundw
            case rel => exact ⟨i + 1, by go_num, by omega, by rw [HS2.out]; exact HNX.out.1, HNX.out.2⟩
            case measure => simp [intOf]; omega
          · have tc : (ck == 0) = false := by simpa using hc
            by_cases hac : ak = ck
            · subst hac
              have HIFS := Lib.hid (And.intro ha hc)
              clear ha hc
              go_upto_region 8 with fail
              obtain ⟨w8, hw8⟩ : ∃ w8, w6.alloc (.cells #[.int .i64 3, .string q, .string ⟨#[]⟩] 41) = w8 := ⟨_, rfl⟩
              have hb8 : Below w6.heap.size w6 w8 := by rw [← hw8]; exact (Below.refl _ w6).alloc (Nat.le_refl _) _
              have hB8 : Blk w8 w6.heap.size 41 #[.int .i64 3, .string q, .string ⟨#[]⟩] := by rw [← hw8]; exact Blk.new _ _ _
              rw [hw8]
              have x0 := (hb8.cell (p := ⟨Ga, 0, none⟩) hl6a).trans x0
              have y0 := (hb8.cell (p := ⟨Gb, 0, none⟩) hl6b).trans y0
              have HO8 := Lib.hid (own_kept HO6.out hb8)
              have HB8 := Lib.hid (H6.out.trans (hb8.mono H6.out.size))
              have hs8 := HB8.out.size
              have z0 := hB8.cell 0
              have z1 := hB8.cell 1
              have z2 := hB8.cell 2
              simp only [List.getElem?_toArray, List.getElem?_cons_succ, List.getElem?_cons_zero] at z0 z1 z2
              have hst := HST.out
              rw [show kk = 3 from by rw [HKD.out]; simp [HIFS.out]] at hst
              have hst2 := hst
              rw [if_neg (by decide)] at hst2
              have HS2 := Lib.hid hst2
              clear hB8 hst hst2 hw8
              go_upto_region 14 with fail
              go_wp2_with (at_builtin; refine wpList_app rfl _ _ 38 rfl w1.heap.size 41 (.agg #[.int .i64 0, .string ⟨#[]⟩, .string ⟨#[]⟩]) 3 40 Tryz.underlying38 infoC41 rfl (by decide) _ m _ rfl (HO8.out.alloc _) w8.heap.size 1 #[.int .i64 3, .string q, .string ⟨#[]⟩] 41 rfl (Blk.new _ _ _) rfl (by simp [Value.oneCell']) (by omega) (by decide) (by simp; omega) _ rfl ?_; intro g cap w9 hown1 hgrow1 hat hlt1)
              have HNX := Lib.hid (And.intro (OwnK41.app (x := ((3 : Int), q, ⟨#[]⟩)) hown1 HM.out) (own_below HO8.out (HB8.out.alloc HB8.out.size _) hgrow1 (Nat.le_refl _) (by simp; omega)))
              clear hown1 hgrow1 hat hlt1
              go_wp2_with fail
              go_roundw
              case rel => exact ⟨i + 1, by go_num, by omega, by rw [HS2.out]; exact HNX.out.1, HNX.out.2⟩
              case measure => simp [intOf]; omega
            · have tac : (ak != ck) = true := by simpa using hac
              have HIFS := Lib.hid (And.intro ha (And.intro hc hac))
              clear ha hc hac
              obtain ⟨w8, hw8⟩ : ∃ w8, w6.alloc (.cells #[.int .i64 5, .string q, .string ⟨#[]⟩] 41) = w8 := ⟨_, rfl⟩
              have hb8 : Below w6.heap.size w6 w8 := by rw [← hw8]; exact (Below.refl _ w6).alloc (Nat.le_refl _) _
              have hB8 : Blk w8 w6.heap.size 41 #[.int .i64 5, .string q, .string ⟨#[]⟩] := by rw [← hw8]; exact Blk.new _ _ _
              have HO8 := Lib.hid (own_kept HO6.out hb8)
              have HB8 := Lib.hid (H6.out.trans (hb8.mono H6.out.size))
              have hs8 := HB8.out.size
              have z0 := hB8.cell 0
              have z1 := hB8.cell 1
              have z2 := hB8.cell 2
              simp only [List.getElem?_toArray, List.getElem?_cons_succ, List.getElem?_cons_zero] at z0 z1 z2
              have hst := HST.out
              rw [show kk = 5 from by rw [HKD.out]; simp [HIFS.out]] at hst
              have hst2 := hst
              rw [if_neg (by decide)] at hst2
              have HS2 := Lib.hid hst2
              clear hB8 hst hst2
              go_upto_region 14 with fail
              clear hw8
              go_wp2_with (at_builtin; refine wpList_app rfl _ _ 38 rfl w1.heap.size 41 (.agg #[.int .i64 0, .string ⟨#[]⟩, .string ⟨#[]⟩]) 3 40 Tryz.underlying38 infoC41 rfl (by decide) _ m _ rfl (HO8.out.alloc _) w8.heap.size 1 #[.int .i64 5, .string q, .string ⟨#[]⟩] 41 rfl (Blk.new _ _ _) rfl (by simp [Value.oneCell']) (by omega) (by decide) (by simp; omega) _ rfl ?_; intro g cap w9 hown1 hgrow1 hat hlt1)
              have HNX := Lib.hid (And.intro (OwnK41.app (x := ((5 : Int), q, ⟨#[]⟩)) hown1 HM.out) (own_below HO8.out (HB8.out.alloc HB8.out.size _) hgrow1 (Nat.le_refl _) (by simp; omega)))
              clear hown1 hgrow1 hat hlt1
              go_wp2_with fail
              go_roundw
              case rel => exact ⟨i + 1, by go_num, by omega, by rw [HS2.out]; exact HNX.out.1, HNX.out.2⟩
              case measure => simp [intOf]; omega
    · obtain rfl : i = n := by omega
      have hf : ps.take i = ps := List.take_of_length_le (by have := HN.out; omega)
      rw [hf] at ho
      obtain ⟨A4, k4, rfl, _, _, _⟩ := SlV_of_any ho
      have HF := Lib.hid (And.intro (⟨_, rfl, own_wide ho hs1⟩ : ∃ u, Ending.returned (.slice A4 (partO xs ys ps).length k4) = .returned u ∧ OwnK41 wr w.heap.size u (partO xs ys ps)) hbw)
      clear ho hb hf hbw
      generalize (partO xs ys ps).length = z at *
      go_wp2_with fail
      go_ret
      obtain ⟨u, he, ho⟩ := HF.out.1
      exact ⟨u, he, ho, HF.out.2⟩
end Go.Proofs.YtihiakkeloejlaaGreatDoor
/- The document's Moves of layer 41, plainly: with marks on what is taken it is what the code finds. -/
set_option linter.unusedVariables false
set_option linter.unusedSimpArgs false
namespace Sw
open Go
/-- is a change a file that is gone? -/
def isGone (xs : List NE) (c : ChE) : Bool := decide (c.1 = 2) && fileN (getT xs c.2)
def isCame (ys : List NE) (c : ChE) : Bool := decide (c.1 = 1) && fileN (getT ys c.2)
section
variable {α β : Type}
theorem find_filter_map (q : β → Bool) (a : α → Bool) (h : α → β) : ∀ l : List α, ((l.filter a).map h).find? q = (l.find? fun x => a x && q (h x)).map h
  | [] => rfl
  | x :: l => by
    by_cases ha : a x = true
    · rw [List.filter_cons_of_pos ha, List.map_cons]
      by_cases hq : q (h x) = true
      · rw [List.find?_cons_of_pos hq, List.find?_cons_of_pos (by simp [ha, hq])]; rfl
      · rw [List.find?_cons_of_neg hq, List.find?_cons_of_neg (by simp [ha, hq]), find_filter_map q a h l]
    · rw [List.filter_cons_of_neg ha, List.find?_cons_of_neg (by simp [ha]), find_filter_map q a h l]
theorem erase_filter_map [DecidableEq α] (q : β → Bool) (a : α → Bool) (h : α → β) : ∀ (l : List α) (i : α), l.Nodup → l.find? (fun x => a x && q (h x)) = some i → ((l.filter a).map h).eraseP q = (l.filter fun x => a x && !decide (x = i)).map h
  | [], i, _, hf => by cases hf
  | x :: l, i, hn, hf => by
    have hx := (List.nodup_cons.1 hn).1
    have hl := (List.nodup_cons.1 hn).2
    by_cases hp : (a x && q (h x)) = true
    · rw [List.find?_cons_of_pos (p := fun x => a x && q (h x)) hp] at hf
      have hxi : x = i := Option.some.inj hf
      subst hxi
      simp only [Bool.and_eq_true] at hp
      rw [List.filter_cons_of_pos hp.1, List.map_cons, List.eraseP_cons_of_pos hp.2, List.filter_cons_of_neg (by simp)]
      congr 1
      refine List.filter_congr fun y hy => ?_
      have : ¬ y = x := fun e => hx (e ▸ hy)
      simp [this]
    · rw [List.find?_cons_of_neg (p := fun x => a x && q (h x)) hp] at hf
      have ih := erase_filter_map q a h l i hl hf
      have hxi : ¬ x = i := fun e => by
        subst e
        exact hx (List.mem_of_find?_eq_some hf)
      by_cases ha : a x = true
      · have hq : ¬ q (h x) = true := fun e => hp (by simp [ha, e])
        rw [List.filter_cons_of_pos ha, List.map_cons, List.eraseP_cons_of_neg hq, List.filter_cons_of_pos (by simp [ha, hxi]), List.map_cons, ih]
      · rw [List.filter_cons_of_neg ha, List.filter_cons_of_neg (by simp [ha]), ih]
end
/-- may o be what came as c, if it is not taken? -/
def hitM (xs : List NE) (k : Pr) (o : ChE) : Bool := decide (o.1 = 2) && (decide ((getT xs o.2).kind = 1) && decide (printN (getT xs o.2) = k))
/-- one change: it takes the first that may be -/
def tkStep (xs ys : List NE) (L : List ChE) (st : (Nat → Bool) × List (ByteArray × ByteArray)) (c : ChE) : (Nat → Bool) × List (ByteArray × ByteArray) :=
  if isCame ys c = true then (match (List.range L.length).find? (fun i => !st.1 i && hitM xs (printN (getT ys c.2)) (L.getD i (0, ⟨#[]⟩))) with
    | some i => (fun j => if j = i then true else st.1 j, st.2 ++ [(c.2, (L.getD i (0, ⟨#[]⟩)).2)])
    | none => st)
  else st
theorem print_file {a b : Nd} (h : printN a = printN b) (ha : fileN a = true) (hb : b.kind = 1) : fileN b = true := by
  unfold fileN at *
  have ha' := of_decide_eq_true ha
  have hs : (printN a).size = (printN b).size := by rw [h]
  have ea : (printN a).size = a.data.size := by unfold printN; simp [ha'.1]
  have eb : (printN b).size = b.data.size := by unfold printN; simp [hb]
  refine decide_eq_true ⟨hb, fun e => ha'.2 ?_⟩
  rw [ea, eb, e] at hs
  have h0 : a.data.size = 0 := by exact_mod_cast hs
  refine ByteArray.ext (Array.ext' ?_)
  have : a.data.data.toList.length = 0 := by rw [← Lib.size_eq]; exact h0
  rw [List.length_eq_zero_iff] at this
  exact this
/-- what is not taken -/
def leftG (xs : List NE) (L : List ChE) (tk : Nat → Bool) : List ByteArray := ((List.range L.length).filter fun i => !tk i && isGone xs (L.getD i (0, ⟨#[]⟩))).map fun i => (L.getD i (0, ⟨#[]⟩)).2
theorem hit_gone {xs : List NE} {b : Nd} (hb : fileN b = true) (o : ChE) : hitM xs (printN b) o = (isGone xs o && decide (printN (getT xs o.2) = printN b)) := by
  unfold hitM isGone
  by_cases h2 : o.1 = 2
  · by_cases hp : printN (getT xs o.2) = printN b
    · have hk : fileN (getT xs o.2) = decide ((getT xs o.2).kind = 1) := by
        by_cases h1 : (getT xs o.2).kind = 1
        · rw [print_file hp.symm hb h1, decide_eq_true h1]
        · unfold fileN
          rw [decide_eq_false h1, decide_eq_false (fun h => h1 h.1)]
      rw [hk]
      simp [h2, hp]
    · simp [hp]
  · simp [h2]
theorem tk_moves (xs ys : List NE) (L : List ChE) : ∀ (E : List ChE) (tk : Nat → Bool) (out : List (ByteArray × ByteArray)),
    (E.foldl (tkStep xs ys L) (tk, out)).2 = out ++ mvP (fun p => printN (getT ys p)) (fun p => printN (getT xs p)) ((E.filter (isCame ys)).map Prod.snd) (leftG xs L tk)
  | [], tk, out => by simp [mvP]
  | c :: E, tk, out => by
    rw [List.foldl_cons]
    have hdef : tkStep xs ys L (tk, out) c = if isCame ys c = true then (match (List.range L.length).find? (fun i => !tk i && hitM xs (printN (getT ys c.2)) (L.getD i (0, ⟨#[]⟩))) with
      | some i => (fun j => if j = i then true else tk j, out ++ [(c.2, (L.getD i (0, ⟨#[]⟩)).2)])
      | none => (tk, out)) else (tk, out) := rfl
    rw [hdef]
    by_cases hc : isCame ys c = true
    · rw [if_pos hc, List.filter_cons_of_pos hc, List.map_cons]
      have hcf : fileN (getT ys c.2) = true := by
        unfold isCame at hc
        simp only [Bool.and_eq_true] at hc
        exact hc.2
      have hp : (fun i => !tk i && hitM xs (printN (getT ys c.2)) (L.getD i (0, ⟨#[]⟩))) = fun i => (!tk i && isGone xs (L.getD i (0, ⟨#[]⟩))) && decide (printN (getT xs (L.getD i (0, ⟨#[]⟩)).2) = printN (getT ys c.2)) := by
        funext i
        rw [hit_gone hcf, Bool.and_assoc]
      simp only [hp]
      have hfm := find_filter_map (fun r => decide (printN (getT xs r) = printN (getT ys c.2))) (fun i => !tk i && isGone xs (L.getD i (0, ⟨#[]⟩))) (fun i => (L.getD i (0, ⟨#[]⟩)).2) (List.range L.length)
      unfold mvP
      cases hf : (List.range L.length).find? (fun i => (!tk i && isGone xs (L.getD i (0, ⟨#[]⟩))) && decide (printN (getT xs (L.getD i (0, ⟨#[]⟩)).2) = printN (getT ys c.2))) with
      | none =>
        rw [hf] at hfm
        have hg : (leftG xs L tk).find? (fun r => decide (printN (getT xs r) = printN (getT ys c.2))) = none := hfm
        rw [hg]
        simp only
        exact tk_moves xs ys L E tk out
      | some i =>
        rw [hf] at hfm
        have hg : (leftG xs L tk).find? (fun r => decide (printN (getT xs r) = printN (getT ys c.2))) = some (L.getD i (0, ⟨#[]⟩)).2 := hfm
        have he := erase_filter_map (fun r => decide (printN (getT xs r) = printN (getT ys c.2))) (fun i => !tk i && isGone xs (L.getD i (0, ⟨#[]⟩))) (fun i => (L.getD i (0, ⟨#[]⟩)).2) (List.range L.length) i List.nodup_range hf
        have he2 : (leftG xs L tk).eraseP (fun r => decide (printN (getT xs r) = printN (getT ys c.2))) = leftG xs L (fun j => if j = i then true else tk j) := by
          refine Eq.trans he ?_
          unfold leftG
          congr 1
          refine List.filter_congr fun j _ => ?_
          by_cases hj : j = i
          · simp [hj]
          · simp [hj]
        rw [hg]
        simp only
        rw [tk_moves xs ys L E _ _, he2, List.append_assoc]
        rfl
    · rw [if_neg hc, List.filter_cons_of_neg hc]
      exact tk_moves xs ys L E tk out
theorem left_none (xs : List NE) (L : List ChE) : leftG xs L (fun _ => false) = (L.filter (isGone xs)).map Prod.snd := by
  unfold leftG
  have h := List.filter_map (p := isGone xs) (f := fun i => L.getD i (0, ⟨#[]⟩)) (l := List.range L.length)
  have hm : (List.range L.length).map (fun i => L.getD i (0, ⟨#[]⟩)) = L := by
    refine List.ext_getElem (by simp) fun i h1 h2 => ?_
    simp [List.getD_eq_getElem?_getD, h2]
  rw [hm] at h
  rw [h, List.map_map]
  simp only [Bool.not_false, Bool.true_and]
  rfl
/-- the document's moves are the code's -/
theorem tk_all (xs ys : List NE) : ((eachP xs ys).foldl (tkStep xs ys (eachP xs ys)) (fun _ => false, [])).2 = movesP xs ys := by
  rw [tk_moves, left_none]
  rfl
end Sw
/- A row of Booleans, by an index function. -/
set_option linter.unusedVariables false
set_option linter.unusedSimpArgs false
namespace Go.Proofs.YtihiakkeloejlaaGreatDoor
open Go Go.RowKit
open Sw
theorem info_bool : (Tryz.prog.info? 4).map (fun i => (i.zero, i.size, i.bytes)) = some (some (.bool false), 1, 1) := by kernel_rfl
/-- a row of Booleans -/
def RowB (w : World) (g n : Nat) (f : Nat → Bool) : Prop := w.rowIs g 4 n (fun j => .bool (f j))
theorem mk_bools (n : Nat) (hn : n ≤ 100000000) (w : World) : (Instr.makeSlice 83 (.int .i64 (n : Int)) (.int .i64 (n : Int))).run Tryz.prog w = .ok (.slice (some ⟨w.heap.size, 0, none⟩) n n) (w.alloc (.cells (madeCells #[.bool false] n) 4)) :=
  run_make_row' 83 4 (.bool false) 1 Tryz.underlying83 info_bool rfl .i64 .i64 n (by omega) (by omega) w
theorem row_made (w : World) (n : Nat) : RowB (w.alloc (.cells (madeCells #[.bool false] n) 4)) w.heap.size n (fun _ => false) := World.rowIs_made w (.bool false) n 4
theorem RowB.set {w : World} {g n : Nat} {f h : Nat → Bool} (k : Nat) (b : Bool) (hr : RowB w g n f) (e : ∀ j, j < n → h j = if j = k then b else f j) : RowB (w.setCell ⟨g, k, none⟩ (.bool b)) g n h := by
  refine (World.rowIs.set hr k (.bool b)).congr fun j hj => ?_
  rw [e j hj]
  split <;> rfl
theorem RowB.congr {w : World} {g n : Nat} {f h : Nat → Bool} (hr : RowB w g n f) (e : ∀ j, j < n → f j = h j) : RowB w g n h := World.rowIs.congr hr fun j hj => congrArg Value.bool (e j hj)
theorem RowB.step {w : World} {g n k : Nat} {G : Nat → Bool} (b : Bool) (hr : RowB w g n (fun j => if j < k then G j else false)) (e : G k = b) : RowB (w.setCell ⟨g, k, none⟩ (.bool b)) g n (fun j => if j < k + 1 then G j else false) :=
  RowB.set k b hr fun j hj => by
    by_cases h : j = k
    · subst h; rw [if_pos (by omega), if_pos rfl, e]
    · rw [if_neg h]
      by_cases h2 : j < k
      · rw [if_pos (by omega), if_pos h2]
      · rw [if_neg (by omega), if_neg h2]
theorem RowB.still {w : World} {g n k : Nat} {G : Nat → Bool} (hr : RowB w g n (fun j => if j < k then G j else false)) (e : G k = false) : RowB w g n (fun j => if j < k + 1 then G j else false) :=
  RowB.congr hr fun j hj => by
    show (if j < k then G j else false) = (if j < k + 1 then G j else false)
    by_cases h : j = k
    · subst h; rw [if_neg (Nat.lt_irrefl j), if_pos (Nat.lt_succ_self j), e]
    · by_cases h2 : j < k
      · rw [if_pos h2, if_pos (Nat.lt_succ_of_lt h2)]
      · rw [if_neg h2, if_neg (by omega)]
theorem wpList_mkB (w : World) {ops : Array Oper} {rest : List Oper} {o : Oper} {a : Act} {Q : Exit → Act → World → Prop}
    (hg : o.guard = none) (l c : Operand) (hop : o.op = Op.makeSlice 83 l c) (kl kc : IntKind) (n : Nat) (hl : a.eval l = .int kl (n : Int)) (hc : a.eval c = .int kc (n : Int)) (hn : n ≤ 100000000)
    (hK : ∀ w1, RowB w1 w.heap.size n (fun _ => false) → Below w.heap.size w w1 → w1.heap.size = w.heap.size + 1 → wpList Tryz.prog ops Q rest (a.put o.dst (.slice (some ⟨w.heap.size, 0, none⟩) n n)) w1) :
    wpList Tryz.prog ops Q (o :: rest) a w := by
  obtain ⟨i0, hi, hz0, hz1, hz2⟩ := info_parts info_bool
  exact wpList_make_row w hg l c 83 hop 4 i0 (.bool false) Tryz.underlying83 hi hz0 hz1 rfl kl kc n hl hc (by rw [hz2]; omega) (by omega) (hK _ (row_made w n) ((Below.refl _ _).alloc (Nat.le_refl _) _) (by simp))
end Go.Proofs.YtihiakkeloejlaaGreatDoor
