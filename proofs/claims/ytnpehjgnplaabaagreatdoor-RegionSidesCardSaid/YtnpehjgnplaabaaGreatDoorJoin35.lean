/- Several texts, joined for the limit of sixty files; each one opens with its own comment. -/
import Derived.Test.YtnpehjgnplaabaaGreatDoorJoin34
import Derived.Test.YtnpehjgnplaabaaGreatDoorJoin13
import Derived.Test.YtnpehjgnplaabaaGreatDoorJoin28
import Derived.Test.YtnpehjgnplaabaaGreatDoorJoin18
/- Several texts, joined for the limit of sixty files; each one opens with its own comment. -/
/- The reference's Whole in general, Of and Right. -/
set_option linter.unusedVariables false
set_option linter.unusedSimpArgs false
namespace Sw
open Go
open Go.Proofs.YtnpehjgnplaabaaGreatDoor (awayT undT)
theorem put_end {xs : List NE} {p : ByteArray} (h : ∀ e ∈ xs, ordS e.1 p < 0) (n : Nd) (hu : Up ordS xs) : putN ordS p n xs = xs ++ [(p, n)] := by
  rw [put_filter ordS_ord p n xs hu, List.filter_eq_self.2 (fun e he => by simpa using h e he), List.filter_eq_nil_iff.2 (fun e he => by have := h e he; simp; omega)]
/-- the next entry of a tree's row may be put -/
theorem may_next {xs pre r : List NE} {x : NE} (h : TI xs) (hl : xs.length ≤ 500) (hx : xs = pre ++ x :: r) : mayT pre x.1 x.2 = 0 ∧ putT pre x.1 x.2 = pre ++ [x] := by
  have hxm : x ∈ xs := by rw [hx]; simp
  have hup := h.up
  rw [hx] at hup
  have hpx : ∀ e ∈ pre, ordS e.1 x.1 < 0 := fun e he => (List.pairwise_append.1 hup).2.2 e he x (List.mem_cons_self ..)
  have hpu : Up ordS pre := (List.pairwise_append.1 hup).1
  have hpm : ∀ e ∈ pre, e ∈ xs := fun e he => by rw [hx]; exact List.mem_append_left _ he
  have hlen : pre.length < 500 := by have := congrArg List.length hx; simp at this; omega
  have hm : mayT pre x.1 x.2 = 0 := by
    refine may_of (h.paths x hxm) (h.nod x hxm).1 (h.nod x hxm).2 (parentT_of ?_) (.inr (holds_no hpu (fun e he => h.paths e (hpm e he)) fun e he hq => ?_)) (fun _ => hlen)
    · rcases parent_last x.1 with ⟨_, h0⟩ | ⟨hne, hlast, h0⟩
      · exact .inl h0
      · right
        have hpm2 : parentS x.1 ∈ upsS x.1 := by rw [← hlast]; exact List.getLast_mem hne
        obtain ⟨d, hd1, hd2, hd3⟩ := h.par x hxm _ hpm2
        have hdp : d ∈ pre := by
          have hd := hd1
          rw [hx] at hd
          rcases List.mem_append.1 hd with hd | hd
          · exact hd
          · exfalso
            have ho := ups_order hpm2
            rw [← hd2] at ho
            rcases List.mem_cons.1 hd with rfl | hd
            · rw [ordS_refl] at ho; omega
            · have := (List.pairwise_cons.1 (List.pairwise_append.1 hup).2.1).1 d hd
              have hn := ordS_neg x.1 d.1
              omega
        rw [← hd2, getT_in hpu hdp]
        exact hd3
    · have ho := ups_order hq
      have h1 := hpx e he
      have hn := ordS_neg e.1 x.1
      omega
  have hput : putT pre x.1 x.2 = pre ++ [x] := by unfold putT; rw [if_pos hm, put_end hpx x.2 hpu]
  exact ⟨hm, hput⟩
theorem may_take {xs : List NE} (h : TI xs) (hl : xs.length ≤ 500) (i : Nat) (hi : i < xs.length) : mayT (xs.take i) xs[i].1 xs[i].2 = 0 ∧ putT (xs.take i) xs[i].1 xs[i].2 = xs.take (i + 1) := by
  obtain ⟨h1, h2⟩ := may_next h hl (pre := xs.take i) (x := xs[i]) (r := xs.drop (i + 1)) (by rw [← List.drop_eq_getElem_cons hi, List.take_append_drop])
  exact ⟨h1, by rw [h2, List.take_succ_eq_append_getElem hi]⟩
/-- a row that the reference calls a tree is one -/
theorem ti_of_puts {l : List NE} (h : (putsT [] l).2 = l) : TI l := by
  rw [← h]
  exact putsT_ti l TI.nil
end Sw
namespace Go.Proofs.YtnpehjgnplaabaaGreatDoor
open Go Go.RowKit
open Sw
end Go.Proofs.YtnpehjgnplaabaaGreatDoor
/- tree.Of, at items that make a tree. -/
set_option linter.unusedVariables false
set_option linter.unusedSimpArgs false
namespace Go.Proofs.YtnpehjgnplaabaaGreatDoor
open Go Go.RowKit
open Sw
theorem parent_len (p : ByteArray) : (parentS p).size ≤ 200 := by
  rcases parent_last p with ⟨_, h⟩ | ⟨h, he, _⟩
  · rw [h]; decide
  · rw [← he, List.getLast_eq_getElem]; exact (ups_step p _ _).2.1
set_option maxRecDepth 100000 in
set_option maxHeartbeats 4000000 in
theorem treeOf_any (w : World) (v : Value) (l : List NE) (h : SlV w 5 eCSN v l) (hl : l.length ≤ 500) (hin : ∀ x ∈ l, x.1.size ≤ 90000 ∧ NdIn x.2) (hti : TI l) :
    Calls Tryz.prog 7 #[v] w fun e w' => ∃ bt bm, e = .returned (.tuple #[.pointer (some ⟨bt, 0, none⟩), .int .i64 l.length, .int .i64 0]) ∧ TreeAt w' bt bm l ∧ w.heap.size ≤ bt ∧ w.heap.size ≤ bm ∧ Below w.heap.size w w' := by
  obtain ⟨A, c, rfl, hc1, hc2, hsl⟩ := h
  obtain ⟨n, hn⟩ : ∃ n, l.length = n := ⟨_, rfl⟩
  rw [hn] at hc1 hl ⊢
  unfold maxLen at hc2
  have HL := Lib.hid (And.intro hn (And.intro hsl (And.intro hin hti))); clear hn hsl hin hti
  have HN := Lib.hid (treeNew_any w)
  go_enter Tryz.func7, Tryz.ntmps7
  go_wp2_with fail
  refine HN.out.mono ?_
  rintro e w1 ⟨bt, bm, rfl, hT, hbt, hbm, hb1⟩
  have H1 := Lib.hid (And.intro hT (And.intro hb1 (And.intro hbt hbm))); clear hT hb1 hbt hbm HN
  go_wp2_with fail
  go_loopw [12] (fun iv wr => ∃ i : Nat, i ≤ n ∧ iv = .int .i64 i ∧ TreeAt wr bt bm (l.take i) ∧ Below w.heap.size w wr) (fun iv _ => n - (intOf iv).toNat)
  case atStart => exact ⟨0, Nat.zero_le _, rfl, H1.out.1, H1.out.2.1⟩
  case round =>
    obtain ⟨i, hi, rfl, hT, hb⟩ := hrel
    by_cases hlt : i < n
    · have hiL : i < l.length := by rw [HL.out.1]; exact hlt
      obtain ⟨b, off, rfl, hbb, hcs⟩ := (HL.out.2.1.below hb (Nat.le_refl _)) (by omega)
      have c0 := hcs i hiL 0 (by omega)
      have c1 := hcs i hiL 1 (by omega)
      have c2 := hcs i hiL 2 (by omega)
      have c3' := hcs i hiL 3 (by omega)
      have c4 := hcs i hiL 4 (by omega)
      simp only [eCSN, List.getElem?_cons_succ, List.getElem?_cons_zero, Nat.add_zero] at c0 c1 c2 c3' c4
      clear hcs
      have hi1 : (i : Int) < n := by omega
      obtain ⟨hq, hni⟩ := HL.out.2.2.1 l[i] (List.getElem_mem hiL)
      obtain ⟨hm, hp⟩ := may_take HL.out.2.2.2 (by rw [HL.out.1]; exact hl) i hiL
      have hpar : (parentS l[i].1).size ≤ 90000 := Nat.le_trans (parent_len _) (by decide)
      obtain ⟨⟨q, kd, md, tm, dt⟩, hx⟩ : ∃ x, l[i] = x := ⟨_, rfl⟩
      simp only [hx] at c0 c1 c2 c3' c4 hq hni hm hp hpar
      clear hx
      have hba := (Below.refl wr.heap.size wr).alloc (Nat.le_refl _) (.cells #[.string q, .int .i64 kd, .int .i64 md, .int .u32 tm, .string dt] 59)
      have HP := Lib.hid (treePut_any _ bt bm (l.take i) q ⟨kd, md, tm, dt⟩ (hT.below hba) (by rw [List.length_take]; omega) hq hpar hni)
      rw [hm, hp] at HP
      simp only [Nd.c] at HP
      have HQ := Lib.hid (hb.trans (hba.mono hb.size)); clear hba hT hb hm hp hni hq hpar
      go_wp2_with fail
      refine HP.out.mono ?_
      rintro e1 w3 ⟨rfl, hT3, hg3⟩
      have H3 := Lib.hid (And.intro hT3 (HQ.out.grown hg3 HQ.out.size (fun k hk => by cases hk; exact H1.out.2.2.2))); clear hT3 hg3 HP
      go_wp2_with fail
      go_roundw
      case rel => exact ⟨i + 1, by omega, by go_num, H3.out.1, H3.out.2⟩
      case measure => simp [intOf]; omega
    · obtain rfl : i = n := by omega
      rw [List.take_of_length_le (by rw [HL.out.1]; omega)] at hT
      have HLN := Lib.hid (treeLen_any wr bt bm l hT)
      rw [HL.out.1] at HLN
      have H3 := Lib.hid (And.intro hT hb); clear hT hb
      go_wp2_with fail
      refine HLN.out.mono ?_
      rintro e w2 ⟨rfl, rfl⟩
      go_wp2_with fail
      refine bodyPost_ret (results_tmp3 rfl _ _ _) rfl ?_
      exact ⟨bt, bm, rfl, H3.out.1, H1.out.2.2.1, H1.out.2.2.2, H3.out.2⟩
end Go.Proofs.YtnpehjgnplaabaaGreatDoor
/- region's tree: that of one side. -/
set_option linter.unusedVariables false
set_option linter.unusedSimpArgs false
namespace Go.Proofs.YtnpehjgnplaabaaGreatDoor
open Go Go.RowKit
open Sw
theorem flat_one_len (f : NP → Nd) : ∀ l : List NP, (l.flatMap fun n => oneN n.path (f n)).length ≤ l.length
  | [] => Nat.le_refl _
  | n :: l => by
    rw [List.flatMap_cons, List.length_append, List.length_cons]
    have h1 := flat_one_len f l
    have h2 : (oneN n.path (f n)).length ≤ 1 := by unfold oneN; split <;> simp
    omega
set_option maxRecDepth 100000 in
set_option maxHeartbeats 8000000 in
theorem regTree0_any (B0 : Nat) (w : World) (gs bt bt2 m0 m1 mc N : Nat) (policy : Int) (pv gv : Value) (l : List NP) (gr : List ByteArray)
    (h : RgAt B0 w gs bt bt2 m0 m1 mc N policy pv gv l gr) (hl : l.length ≤ 400) (hz : ∀ n ∈ l, n.path.size ≤ 90000 ∧ NdIn (NP.left n)) (hr : Rise (l.map NP.path)) (hti : TI (l.flatMap fun n => oneN n.path (NP.left n))) :
    Calls Tryz.prog 29 #[.pointer (some ⟨gs, 0, none⟩), .int .i64 0] w fun e w' => ∃ bt' bm', e = .returned (.tuple #[.pointer (some ⟨bt', 0, none⟩), .int .i64 0]) ∧ TreeAt w' bt' bm' (l.flatMap fun n => oneN n.path (NP.left n)) ∧ Below w.heap.size w w' := by
  have hn : (l.map NP.path).length = l.length := List.length_map _
  have hrp := (h : RgIn _ _ _ _ _ _ _ _ _ _ _ _ _ _ _ _ _).rp
  rw [← flat_sE] at hrp
  have hsv := SlV.of_own hrp sE_lenP (by decide)
  have hb := (h : RgIn _ _ _ _ _ _ _ _ _ _ _ _ _ _ _ _ _).box
  have hm := (h : RgIn _ _ _ _ _ _ _ _ _ _ _ _ _ _ _ _ _).mA
  have z3 := hb.cell 3
  simp only [List.getElem?_toArray, List.getElem?_cons_succ, List.getElem?_cons_zero] at z3
  have H0 := Lib.hid (And.intro hb (And.intro hm hsv))
  have HZ := Lib.hid (And.intro hz (And.intro hr hti))
  obtain ⟨A, c, rfl, hc1, hc2, -⟩ := hsv
  unfold maxLen at hc2
  rw [hn] at hc1 z3 H0
  obtain ⟨n, hnl⟩ : ∃ n, l.length = n := ⟨_, rfl⟩
  have HN := Lib.hid (And.intro hn hnl)
  rw [hnl] at hc1 z3 H0 hl
  clear h hrp hb hm hn hnl hz hr hti
  go_enter Tryz.func29, Tryz.ntmps29
  go_wp2_with fail
  go_loopw [6, 17] (fun ov iv wr => ∃ i : Nat, i ≤ n ∧ iv = .int .i64 i ∧ OwnIt wr w.heap.size ov ((l.take i).flatMap fun n => oneN n.path (NP.left n)) ∧ Below w.heap.size w wr) (fun _ iv => fun _ => n - (intOf iv).toNat)
  case atStart => exact ⟨0, Nat.zero_le _, rfl, World.ownsRow_nil _ _ _ _, Below.refl _ _⟩
  case round =>
    obtain ⟨i, hi, rfl, hO, hbr⟩ := hrel
    by_cases hlt : i < n
    · have hiL : i < l.length := by have := HN.out.2; omega
      have hiM : i < (l.map NP.path).length := by rw [List.length_map]; exact hiL
      obtain ⟨A', c', hA, _, _, hso⟩ := H0.out.2.2.below hbr (Nat.le_refl _)
      rw [HN.out.1, HN.out.2] at hA
      obtain ⟨rfl, rfl⟩ : A = A' ∧ c = c' := by injection hA with e1 e2 e3; exact ⟨e1, e3⟩
      clear hA
      obtain ⟨b, off, rfl, hbb, hcs⟩ := hso (by omega)
      have c0 := hcs i hiM 0 (by omega)
      simp only [sE, List.getElem_map, List.getElem?_cons_zero, Nat.add_zero, Nat.mul_one] at c0
      clear hcs hso
      have hi1 : (i : Int) < n := by omega
      have hfl : (l.take (i + 1)).flatMap (fun n => oneN n.path (NP.left n)) = (l.take i).flatMap (fun n => oneN n.path (NP.left n)) ++ oneN l[i].path (NP.left l[i]) := by
        rw [List.take_succ_eq_append_getElem hiL, List.flatMap_append]; simp
      have hnd := ndAt_mem NP.left HZ.out.2.1 (List.getElem_mem hiL)
      have hzi := HZ.out.1 _ (List.getElem_mem hiL)
      obtain ⟨x, hx⟩ : ∃ x, l[i] = x := ⟨_, rfl⟩
      simp only [hx] at c0 hfl hnd hzi
      clear hx
      obtain ⟨q, hq⟩ : ∃ q, x.path = q := ⟨_, rfl⟩
      obtain ⟨nd, hndq⟩ : ∃ nd, NP.left x = nd := ⟨_, rfl⟩
      rw [hq, hndq] at hfl hzi
      rw [hq] at c0 hnd
      rw [hndq] at hnd
      have hqk : okT q := Nat.le_trans hzi.1 (by unfold maxLen; omega)
      have hbx := H0.out.1.below hbr H0.out.1.lt
      have hmx := H0.out.2.1.below hbr H0.out.2.1.lt
      have z4 := hbx.cell 4
      simp only [List.getElem?_toArray, List.getElem?_cons_succ, List.getElem?_cons_zero] at z4
      have hlk := hmx.look (keyStr Tryz.underlying9) Tryz.underlying73 (zeroNd wr) hqk
      rw [lkN_getD, hnd] at hlk
      have HI := Lib.hid (regItems_any wr q nd)
      have h1len : (oneN q nd).length ≤ 1 := by unfold oneN; split <;> simp
      have hol : ((l.take i).flatMap fun n => oneN n.path (NP.left n)).length ≤ 400 := Nat.le_trans (flat_one_len NP.left (l.take i)) (by rw [List.length_take]; omega)
      obtain ⟨LT, hLT⟩ : ∃ L, ((l.take i).flatMap fun n => oneN n.path (NP.left n)) = L := ⟨_, rfl⟩
      rw [hLT] at hO hfl hol
      obtain ⟨kl, hkl⟩ : ∃ k, LT.length = k := ⟨_, rfl⟩
      unfold OwnIt at hO
      rw [hkl] at hO hol
      obtain ⟨A6, c6, rfl, -, -, -⟩ := SlV_of_any hO
      have HO := Lib.hid (And.intro hO (And.intro hbr (And.intro hfl (And.intro h1len (And.intro hol hkl)))))
      obtain ⟨ka, kb, kc, kd⟩ := nd
      simp only [Nd.c] at hlk HI
      clear hO hbr hfl hnd hzi hbx hmx hq hndq h1len hol hLT hkl
      go_wp2_with fail
      refine HI.out.mono ?_
      rintro e w2 ⟨r, rfl, hr2, hb2⟩
      have h2 := own_kept HO.out.1 hb2
      have hr2l := hr2.slv
      obtain ⟨A7, c7, rfl, -, -, -⟩ := SlV_of_any hr2
      have H2 := Lib.hid (And.intro h2 (And.intro hr2l (HO.out.2.1.trans (hb2.mono HO.out.2.1.size))))
      clear hr2 hr2l hb2 h2 HI hlk z4 c0
      go_wp2_with (at_builtin; refine wpList_app_slv rfl _ _ 25 rfl w.heap.size 59 (.agg #[.string ⟨#[]⟩, .int .i64 0, .int .i64 0, .int .u32 0, .string ⟨#[]⟩]) 5 56 Tryz.underlying25 infoIt rfl (by decide) _ kl (LT.flatMap eCSN) rfl H2.out.1 eCSN eCSN_len eCSN_one _ (oneN q ⟨ka, kb, kc, kd⟩) rfl H2.out.2.1 (by have := HO.out.2.2.2.1; have := HO.out.2.2.2.2.1; omega) (by decide) H2.out.2.2.size ?_; intro v5 w5 ho5 hg5)
      have hbb5 := H2.out.2.2.grown hg5 H2.out.2.2.size (fun k hk => (H2.out.1.lt k hk).1)
      have ho5' : OwnIt w5 w.heap.size v5 ((l.take (i + 1)).flatMap fun n => oneN n.path (NP.left n)) := by
        rw [HO.out.2.2.1]
        unfold OwnIt
        rw [List.length_append, List.flatMap_append, HO.out.2.2.2.2.2]
        exact ho5
      have H5 := Lib.hid (And.intro ho5' hbb5)
      clear ho5 hg5 hbb5 ho5'
      go_wp2_with fail
      go_roundw
      case rel => exact ⟨i + 1, by omega, by go_num, H5.out.1, H5.out.2⟩
      case measure => simp [intOf]; omega
    · obtain rfl : i = n := by omega
      rw [List.take_of_length_le (by have := HN.out.2; omega)] at hO
      have hol : (l.flatMap fun n => oneN n.path (NP.left n)).length ≤ 400 := Nat.le_trans (flat_one_len NP.left l) (by have := HN.out.2; omega)
      have hsl := OwnIt.slv hO
      obtain ⟨k, hk⟩ : ∃ k, (l.flatMap fun n => oneN n.path (NP.left n)).length = k := ⟨_, rfl⟩
      unfold OwnIt at hO
      rw [hk] at hO
      obtain ⟨A2, c2, rfl, -, -, -⟩ := SlV_of_any hO
      have HT := Lib.hid (treeOf_any wr _ (l.flatMap fun n => oneN n.path (NP.left n)) hsl (by omega) (fun e he => by
        obtain ⟨n, hn, he⟩ := List.mem_flatMap.1 he
        rw [(one_mem.1 he).1]
        exact HZ.out.1 n hn) HZ.out.2.2)
      rw [hk] at HT
      have HB := Lib.hid hbr
      clear hO hbr hol hsl hk
      go_wp2_with fail
      refine HT.out.mono ?_
      rintro e w2 ⟨bt', bm', rfl, hT, -, -, hb2⟩
      have H2 := Lib.hid (And.intro hT (HB.out.trans (hb2.mono HB.out.size)))
      clear hT hb2 HT
      go_wp2_with fail
      go_ret2
      exact ⟨bt', bm', rfl, H2.out.1, H2.out.2⟩
set_option maxRecDepth 100000 in
set_option maxHeartbeats 8000000 in
theorem regTree1_any (B0 : Nat) (w : World) (gs bt bt2 m0 m1 mc N : Nat) (policy : Int) (pv gv : Value) (l : List NP) (gr : List ByteArray)
    (h : RgAt B0 w gs bt bt2 m0 m1 mc N policy pv gv l gr) (hl : l.length ≤ 400) (hz : ∀ n ∈ l, n.path.size ≤ 90000 ∧ NdIn (NP.right n)) (hr : Rise (l.map NP.path)) (hti : TI (l.flatMap fun n => oneN n.path (NP.right n))) :
    Calls Tryz.prog 29 #[.pointer (some ⟨gs, 0, none⟩), .int .i64 1] w fun e w' => ∃ bt' bm', e = .returned (.tuple #[.pointer (some ⟨bt', 0, none⟩), .int .i64 0]) ∧ TreeAt w' bt' bm' (l.flatMap fun n => oneN n.path (NP.right n)) ∧ Below w.heap.size w w' := by
  have hn : (l.map NP.path).length = l.length := List.length_map _
  have hrp := (h : RgIn _ _ _ _ _ _ _ _ _ _ _ _ _ _ _ _ _).rp
  rw [← flat_sE] at hrp
  have hsv := SlV.of_own hrp sE_lenP (by decide)
  have hb := (h : RgIn _ _ _ _ _ _ _ _ _ _ _ _ _ _ _ _ _).box
  have hm := (h : RgIn _ _ _ _ _ _ _ _ _ _ _ _ _ _ _ _ _).mB
  have z3 := hb.cell 3
  simp only [List.getElem?_toArray, List.getElem?_cons_succ, List.getElem?_cons_zero] at z3
  have H0 := Lib.hid (And.intro hb (And.intro hm hsv))
  have HZ := Lib.hid (And.intro hz (And.intro hr hti))
  obtain ⟨A, c, rfl, hc1, hc2, -⟩ := hsv
  unfold maxLen at hc2
  rw [hn] at hc1 z3 H0
  obtain ⟨n, hnl⟩ : ∃ n, l.length = n := ⟨_, rfl⟩
  have HN := Lib.hid (And.intro hn hnl)
  rw [hnl] at hc1 z3 H0 hl
  clear h hrp hb hm hn hnl hz hr hti
  go_enter Tryz.func29, Tryz.ntmps29
  go_wp2_with fail
  go_loopw [6, 17] (fun ov iv wr => ∃ i : Nat, i ≤ n ∧ iv = .int .i64 i ∧ OwnIt wr w.heap.size ov ((l.take i).flatMap fun n => oneN n.path (NP.right n)) ∧ Below w.heap.size w wr) (fun _ iv => fun _ => n - (intOf iv).toNat)
  case atStart => exact ⟨0, Nat.zero_le _, rfl, World.ownsRow_nil _ _ _ _, Below.refl _ _⟩
  case round =>
    obtain ⟨i, hi, rfl, hO, hbr⟩ := hrel
    by_cases hlt : i < n
    · have hiL : i < l.length := by have := HN.out.2; omega
      have hiM : i < (l.map NP.path).length := by rw [List.length_map]; exact hiL
      obtain ⟨A', c', hA, _, _, hso⟩ := H0.out.2.2.below hbr (Nat.le_refl _)
      rw [HN.out.1, HN.out.2] at hA
      obtain ⟨rfl, rfl⟩ : A = A' ∧ c = c' := by injection hA with e1 e2 e3; exact ⟨e1, e3⟩
      clear hA
      obtain ⟨b, off, rfl, hbb, hcs⟩ := hso (by omega)
      have c0 := hcs i hiM 0 (by omega)
      simp only [sE, List.getElem_map, List.getElem?_cons_zero, Nat.add_zero, Nat.mul_one] at c0
      clear hcs hso
      have hi1 : (i : Int) < n := by omega
      have hfl : (l.take (i + 1)).flatMap (fun n => oneN n.path (NP.right n)) = (l.take i).flatMap (fun n => oneN n.path (NP.right n)) ++ oneN l[i].path (NP.right l[i]) := by
        rw [List.take_succ_eq_append_getElem hiL, List.flatMap_append]; simp
      have hnd := ndAt_mem NP.right HZ.out.2.1 (List.getElem_mem hiL)
      have hzi := HZ.out.1 _ (List.getElem_mem hiL)
      obtain ⟨x, hx⟩ : ∃ x, l[i] = x := ⟨_, rfl⟩
      simp only [hx] at c0 hfl hnd hzi
      clear hx
      obtain ⟨q, hq⟩ : ∃ q, x.path = q := ⟨_, rfl⟩
      obtain ⟨nd, hndq⟩ : ∃ nd, NP.right x = nd := ⟨_, rfl⟩
      rw [hq, hndq] at hfl hzi
      rw [hq] at c0 hnd
      rw [hndq] at hnd
      have hqk : okT q := Nat.le_trans hzi.1 (by unfold maxLen; omega)
      have hbx := H0.out.1.below hbr H0.out.1.lt
      have hmx := H0.out.2.1.below hbr H0.out.2.1.lt
      have z4 := hbx.cell 5
      simp only [List.getElem?_toArray, List.getElem?_cons_succ, List.getElem?_cons_zero] at z4
      have hlk := hmx.look (keyStr Tryz.underlying9) Tryz.underlying73 (zeroNd wr) hqk
      rw [lkN_getD, hnd] at hlk
      have HI := Lib.hid (regItems_any wr q nd)
      have h1len : (oneN q nd).length ≤ 1 := by unfold oneN; split <;> simp
      have hol : ((l.take i).flatMap fun n => oneN n.path (NP.right n)).length ≤ 400 := Nat.le_trans (flat_one_len NP.right (l.take i)) (by rw [List.length_take]; omega)
      obtain ⟨LT, hLT⟩ : ∃ L, ((l.take i).flatMap fun n => oneN n.path (NP.right n)) = L := ⟨_, rfl⟩
      rw [hLT] at hO hfl hol
      obtain ⟨kl, hkl⟩ : ∃ k, LT.length = k := ⟨_, rfl⟩
      unfold OwnIt at hO
      rw [hkl] at hO hol
      obtain ⟨A6, c6, rfl, -, -, -⟩ := SlV_of_any hO
      have HO := Lib.hid (And.intro hO (And.intro hbr (And.intro hfl (And.intro h1len (And.intro hol hkl)))))
      obtain ⟨ka, kb, kc, kd⟩ := nd
      simp only [Nd.c] at hlk HI
      clear hO hbr hfl hnd hzi hbx hmx hq hndq h1len hol hLT hkl
      go_wp2_with fail
      refine HI.out.mono ?_
      rintro e w2 ⟨r, rfl, hr2, hb2⟩
      have h2 := own_kept HO.out.1 hb2
      have hr2l := hr2.slv
      obtain ⟨A7, c7, rfl, -, -, -⟩ := SlV_of_any hr2
      have H2 := Lib.hid (And.intro h2 (And.intro hr2l (HO.out.2.1.trans (hb2.mono HO.out.2.1.size))))
      clear hr2 hr2l hb2 h2 HI hlk z4 c0
      go_wp2_with (at_builtin; refine wpList_app_slv rfl _ _ 25 rfl w.heap.size 59 (.agg #[.string ⟨#[]⟩, .int .i64 0, .int .i64 0, .int .u32 0, .string ⟨#[]⟩]) 5 56 Tryz.underlying25 infoIt rfl (by decide) _ kl (LT.flatMap eCSN) rfl H2.out.1 eCSN eCSN_len eCSN_one _ (oneN q ⟨ka, kb, kc, kd⟩) rfl H2.out.2.1 (by have := HO.out.2.2.2.1; have := HO.out.2.2.2.2.1; omega) (by decide) H2.out.2.2.size ?_; intro v5 w5 ho5 hg5)
      have hbb5 := H2.out.2.2.grown hg5 H2.out.2.2.size (fun k hk => (H2.out.1.lt k hk).1)
      have ho5' : OwnIt w5 w.heap.size v5 ((l.take (i + 1)).flatMap fun n => oneN n.path (NP.right n)) := by
        rw [HO.out.2.2.1]
        unfold OwnIt
        rw [List.length_append, List.flatMap_append, HO.out.2.2.2.2.2]
        exact ho5
      have H5 := Lib.hid (And.intro ho5' hbb5)
      clear ho5 hg5 hbb5 ho5'
      go_wp2_with fail
      go_roundw
      case rel => exact ⟨i + 1, by omega, by go_num, H5.out.1, H5.out.2⟩
      case measure => simp [intOf]; omega
    · obtain rfl : i = n := by omega
      rw [List.take_of_length_le (by have := HN.out.2; omega)] at hO
      have hol : (l.flatMap fun n => oneN n.path (NP.right n)).length ≤ 400 := Nat.le_trans (flat_one_len NP.right l) (by have := HN.out.2; omega)
      have hsl := OwnIt.slv hO
      obtain ⟨k, hk⟩ : ∃ k, (l.flatMap fun n => oneN n.path (NP.right n)).length = k := ⟨_, rfl⟩
      unfold OwnIt at hO
      rw [hk] at hO
      obtain ⟨A2, c2, rfl, -, -, -⟩ := SlV_of_any hO
      have HT := Lib.hid (treeOf_any wr _ (l.flatMap fun n => oneN n.path (NP.right n)) hsl (by omega) (fun e he => by
        obtain ⟨n, hn, he⟩ := List.mem_flatMap.1 he
        rw [(one_mem.1 he).1]
        exact HZ.out.1 n hn) HZ.out.2.2)
      rw [hk] at HT
      have HB := Lib.hid hbr
      clear hO hbr hol hsl hk
      go_wp2_with fail
      refine HT.out.mono ?_
      rintro e w2 ⟨bt', bm', rfl, hT, -, -, hb2⟩
      have H2 := Lib.hid (And.intro hT (HB.out.trans (hb2.mono HB.out.size)))
      clear hT hb2 HT
      go_wp2_with fail
      go_ret2
      exact ⟨bt', bm', rfl, H2.out.1, H2.out.2⟩
end Go.Proofs.YtnpehjgnplaabaaGreatDoor
