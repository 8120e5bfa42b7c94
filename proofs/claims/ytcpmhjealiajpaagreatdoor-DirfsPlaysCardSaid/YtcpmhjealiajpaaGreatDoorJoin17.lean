/- Several texts, joined for the limit of sixty files; each one opens with its own comment. -/
import Derived.Test.YtcpmhjealiajpaaGreatDoorJoin16
import Derived.Test.YtcpmhjealiajpaaGreatDoorJoin13
import Derived.Test.YtcpmhjealiajpaaGreatDoorJoin14
import Derived.Test.YtcpmhjealiajpaaGreatDoorJoin11
import Derived.Test.YtcpmhjealiajpaaGreatDoorJoin1
import Derived.Test.YtcpmhjealiajpaaGreatDoorJoin10
import Derived.Test.YtcpmhjealiajpaaGreatDoorJoin12
/- The reference's Whole in general, Of and Right. -/
set_option linter.unusedVariables false
set_option linter.unusedSimpArgs false
namespace Sw
open Go
open Go.Proofs.YtcpmhjealiajpaaGreatDoor (awayT undT putT_len)
theorem put_end {xs : List NE} {p : ByteArray} (h : ∀ e ∈ xs, ordS e.1 p < 0) (n : Nd) (hu : Up ordS xs) : putN ordS p n xs = xs ++ [(p, n)] := by
  rw [put_filter ordS_ord p n xs hu, List.filter_eq_self.2 (fun e he => by simpa using h e he), List.filter_eq_nil_iff.2 (fun e he => by have := h e he; simp; omega)]
/-- the next entry of a tree's row may be put -/
theorem may_next {xs pre r : List NE} {x : NE} (h : TI xs) (hl : xs.length ≤ 500) (hx : xs = pre ++ x :: r) : mayT pre x.1 x.2 = 0 ∧ putT pre x.1 x.2 = pre ++ [x] := by
  have hxm : x ∈ xs := by rw [hx]; simp
  have hup := h.up
  rw [hx] at hup
  have hpx : ∀ e ∈ pre, ordS e.1 x.1 < 0 := fun e he => (List.pairwise_append.1 hup).2.2 e he x (List.mem_cons_self ..)
  have hpu : Up ordS pre := (List.pairwise_append.1 hup).1
  have hpm : ∀ e ∈ pre, e ∈ xs := fun e he => by rw [hx]; exact List.mem_append_left _ he
  have hlen : pre.length < 500 := by have := congrArg List.length hx; simp at this; omega
  have hm : mayT pre x.1 x.2 = 0 := by
    refine may_of (h.paths x hxm) (h.nod x hxm).1 (h.nod x hxm).2 (parentT_of ?_) (.inr (holds_no hpu (fun e he => h.paths e (hpm e he)) fun e he hq => ?_)) (fun _ => hlen)
    · rcases parent_last x.1 with ⟨_, h0⟩ | ⟨hne, hlast, h0⟩
      · exact .inl h0
      · right
        have hpm2 : parentS x.1 ∈ upsS x.1 := by rw [← hlast]; exact List.getLast_mem hne
        obtain ⟨d, hd1, hd2, hd3⟩ := h.par x hxm _ hpm2
        have hdp : d ∈ pre := by
          have hd := hd1
          rw [hx] at hd
          rcases List.mem_append.1 hd with hd | hd
          · exact hd
          · exfalso
            have ho := ups_order hpm2
            rw [← hd2] at ho
            rcases List.mem_cons.1 hd with rfl | hd
            · rw [ordS_refl] at ho; omega
            · have := (List.pairwise_cons.1 (List.pairwise_append.1 hup).2.1).1 d hd
              have hn := ordS_neg x.1 d.1
              omega
        rw [← hd2, getT_in hpu hdp]
        exact hd3
    · have ho := ups_order hq
      have h1 := hpx e he
      have hn := ordS_neg e.1 x.1
      omega
  have hput : putT pre x.1 x.2 = pre ++ [x] := by unfold putT; rw [if_pos hm, put_end hpx x.2 hpu]
  exact ⟨hm, hput⟩
/-- a tree's row is put as it stands -/
theorem puts_self {xs : List NE} (h : TI xs) (hl : xs.length ≤ 500) : putsT [] xs = (0, xs) := by
  have key : ∀ (r pre : List NE), xs = pre ++ r → putsT pre r = (0, xs) := by
    intro r
    induction r with
    | nil => intro pre hx; rw [hx, List.append_nil]; rfl
    | cons x r ih =>
      intro pre hx
      obtain ⟨hm, hput⟩ := may_next h hl hx
      show putsT pre (x :: r) = _
      unfold putsT
      rw [if_pos hm, hput]
      exact ih (pre ++ [x]) (by rw [hx]; simp)
  exact key xs [] rfl
theorem may_take {xs : List NE} (h : TI xs) (hl : xs.length ≤ 500) (i : Nat) (hi : i < xs.length) : mayT (xs.take i) xs[i].1 xs[i].2 = 0 ∧ putT (xs.take i) xs[i].1 xs[i].2 = xs.take (i + 1) := by
  obtain ⟨h1, h2⟩ := may_next h hl (pre := xs.take i) (x := xs[i]) (r := xs.drop (i + 1)) (by rw [← List.drop_eq_getElem_cons hi, List.take_append_drop])
  exact ⟨h1, by rw [h2, List.take_succ_eq_append_getElem hi]⟩
/-- behind a clearing nothing is at a path, nor under it -/
theorem clear_after {xs : List NE} (h : TI xs) (p : ByteArray) : (clearW xs p = 0 → getT (xs.filter (awayT p)) p = ndZ ∧ undT p (xs.filter (awayT p)) = []) ∧ (¬ clearW xs p = 0 → getT xs p = ndZ ∧ undT p xs = []) := by
  refine ⟨fun _ => ⟨getT_out (h.up.filter _) fun e he hk => ?_, ?_⟩, fun hc => ?_⟩
  · exact ((away_iff p e).1 (List.mem_filter.1 he).2).1 hk
  · refine List.eq_nil_iff_forall_not_mem.2 fun e he => ?_
    obtain ⟨h1, h2⟩ := (und_iff p _ e).1 he
    obtain ⟨h3, h4⟩ := (away_iff p e).1 (List.mem_filter.1 h1).2
    exact h2.elim h3 h4
  · have hk : (getT xs p).kind = 0 := by
      unfold clearW at hc
      by_cases h0 : (getT xs p).kind = 0
      · exact h0
      · rw [if_neg h0] at hc; exact absurd rfl hc
    have hno : ∀ e ∈ xs, ¬ e.1 = p := fun e he e' => by
      have := getT_in h.up he
      rw [e'] at this
      rw [this] at hk
      exact (h.nod e he).1 hk
    refine ⟨getT_out h.up hno, List.eq_nil_iff_forall_not_mem.2 fun e he => ?_⟩
    obtain ⟨h1, h2⟩ := (und_iff p _ e).1 he
    rcases h2 with h2 | h2
    · exact hno e h1 h2
    · obtain ⟨d, hd1, hd2, _⟩ := h.par e h1 p h2
      exact hno d hd1 hd2
/-- a row that the reference calls a tree is one -/
theorem ti_of_puts {l : List NE} (h : (putsT [] l).2 = l) : TI l := by
  rw [← h]
  exact putsT_ti l TI.nil
end Sw
namespace Go.Proofs.YtcpmhjealiajpaaGreatDoor
open Go Go.RowKit
open Sw
theorem nd_ext {a b : Nd} (h1 : a.kind = b.kind) (h2 : a.mode = b.mode) (h3 : a.time = b.time) (h4 : a.data = b.data) : a = b := by
  cases a; cases b; simp_all
theorem item_ne {a a' : ByteArray} {k m t k' m' t' : Int} {d d' : ByteArray} (h : ¬ ((a, (⟨k, m, t, d⟩ : Nd)) : NE) = (a', ⟨k', m', t', d'⟩)) :
    ¬ a.toList = a'.toList ∨ (a = a' ∧ ¬ k = k') ∨ (a = a' ∧ k = k' ∧ ¬ m = m') ∨ (a = a' ∧ k = k' ∧ m = m' ∧ ¬ t = t') ∨ (a = a' ∧ k = k' ∧ m = m' ∧ t = t' ∧ ¬ d.toList = d'.toList) := by
  have hd : ∀ x y : ByteArray, x.toList = y.toList → x = y := fun x y h => by rw [ByteArray.toList_eq, ByteArray.toList_eq] at h; exact dat_inj h
  by_cases h1 : a.toList = a'.toList
  · have e1 := hd _ _ h1
    by_cases h2 : k = k'
    · by_cases h3 : m = m'
      · by_cases h4 : t = t'
        · by_cases h5 : d.toList = d'.toList
          · have e5 := hd _ _ h5
            subst e1 h2 h3 h4 e5
            exact absurd rfl h
          · exact .inr (.inr (.inr (.inr ⟨e1, h2, h3, h4, h5⟩)))
        · exact .inr (.inr (.inr (.inl ⟨e1, h2, h3, h4⟩)))
      · exact .inr (.inr (.inl ⟨e1, h2, h3⟩))
    · exact .inr (.inl ⟨e1, h2⟩)
  · exact .inl h1
set_option maxRecDepth 100000 in
set_option maxHeartbeats 4000000 in
theorem ref16Whole_any (w : World) (u v : Value) (l m : List NE) (hu : SlV w 5 eCSN u l) (hv : SlV w 5 eCSN v m) :
    Calls Tryz.prog 19 #[u, v] w fun e w' => ∃ R : Bool, e = .returned (.bool R) ∧ (R = true ↔ l = m) ∧ Below w.heap.size w w' := by
  obtain ⟨A1, c1, rfl, hc11, hc12, hsl1⟩ := hu
  obtain ⟨A2, c2, rfl, hc21, hc22, hsl2⟩ := hv
  obtain ⟨n, hn⟩ : ∃ n, l.length = n := ⟨_, rfl⟩
  obtain ⟨n2, hn2⟩ : ∃ n2, m.length = n2 := ⟨_, rfl⟩
  rw [hn] at hc11 ⊢
  rw [hn2] at hc21 ⊢
  unfold maxLen at hc12 hc22
  have HL := Lib.hid (And.intro hn hn2); clear hn hn2
  have H1 := Lib.hid hsl1; clear hsl1
  have H2 := Lib.hid hsl2; clear hsl2
  by_cases hnn : n = n2
  · obtain rfl := hnn
    go_enter Tryz.func19, Tryz.ntmps19
    go_wp2_with fail
    go_loopw [13] (fun iv wr => ∃ i : Nat, i ≤ n ∧ iv = .int .i64 i ∧ (∀ k (hk : k < l.length) (hk2 : k < m.length), k < i → l[k] = m[k]) ∧ Below w.heap.size w wr) (fun iv _ => n - (intOf iv).toNat)
    case atStart => exact ⟨0, Nat.zero_le _, rfl, fun k _ _ h => absurd h (Nat.not_lt_zero _), Below.refl _ _⟩
    case round =>
      obtain ⟨i, hi, rfl, hall, hb⟩ := hrel
      have HA := Lib.hid hall; clear hall
      by_cases hlt : i < n
      · have hiL : i < l.length := by have := HL.out.1; omega
        have hiM : i < m.length := by have := HL.out.2; omega
        obtain ⟨b1, off1, rfl, hbb1, hcs1⟩ := (H1.out.below hb (Nat.le_refl _)) (by omega)
        obtain ⟨b2, off2, rfl, hbb2, hcs2⟩ := (H2.out.below hb (Nat.le_refl _)) (by omega)
        have c0 := hcs1 i hiL 0 (by omega)
        have c1' := hcs1 i hiL 1 (by omega)
        have c2' := hcs1 i hiL 2 (by omega)
        have c3' := hcs1 i hiL 3 (by omega)
        have c4 := hcs1 i hiL 4 (by omega)
        have d0 := hcs2 i hiM 0 (by omega)
        have d1 := hcs2 i hiM 1 (by omega)
        have d2 := hcs2 i hiM 2 (by omega)
        have d3 := hcs2 i hiM 3 (by omega)
        have d4 := hcs2 i hiM 4 (by omega)
        simp only [eCSN, List.getElem?_cons_succ, List.getElem?_cons_zero, Nat.add_zero] at c0 c1' c2' c3' c4 d0 d1 d2 d3 d4
        clear hcs1 hcs2
        have hi1 : (i : Int) < n := by omega
        have HT := Lib.hid (show l[i] = m[i] → ∀ k (hk : k < l.length) (hk2 : k < m.length), k < i + 1 → l[k] = m[k] from fun h k hk hk2 hki => by
          by_cases e : k = i
          · subst e; exact h
          · exact HA.out k hk hk2 (by omega))
        have HF := Lib.hid (show ¬ l[i] = m[i] → ¬ l = m from fun h e => h (by simp only [e]))
        obtain ⟨x, hx⟩ : ∃ x, l[i] = x := ⟨_, rfl⟩
        obtain ⟨y, hy⟩ : ∃ y, m[i] = y := ⟨_, rfl⟩
        rw [hx, hy] at HT HF
        simp only [hx] at c0 c1' c2' c3' c4
        simp only [hy] at d0 d1 d2 d3 d4
        clear hx hy
        have HB := Lib.hid hb; clear hb
        by_cases hxy : x = y
        · subst hxy
          have HT2 := Lib.hid (HT.out rfl)
          go_wp2_with fail
          go_region
          go_wp2_with fail
          go_roundw
          case rel => exact ⟨i + 1, by omega, by go_num, HT2.out, HB.out.drew⟩
          case measure => simp [intOf]; omega
        · have HF2 := Lib.hid (HF.out hxy)
          obtain ⟨a, ⟨k, mo, t, d⟩⟩ := x
          obtain ⟨a', ⟨k', mo', t', d'⟩⟩ := y
          simp only at c0 c1' c2' c3' c4 d0 d1 d2 d3 d4
          have hne := item_ne hxy
          clear hxy HT HF
          rcases hne with hne | ⟨rfl, hne⟩ | ⟨rfl, rfl, hne⟩ | ⟨rfl, rfl, rfl, hne⟩ | ⟨rfl, rfl, rfl, rfl, hne⟩
          all_goals
            go_wp2_with fail
            go_region
            go_wp2_with fail
            go_ret
            exact ⟨false, rfl, ⟨fun h => (by cases h), fun h => absurd h HF2.out⟩, HB.out.drew⟩
      · obtain rfl : i = n := by omega
        have hlm : l = m := List.ext_getElem (by rw [HL.out.1, HL.out.2]) fun k h1 h2 => HA.out k h1 h2 (by rw [← HL.out.1]; exact h1)
        have HB := Lib.hid (And.intro hb hlm); clear hb hlm
        go_wp2_with fail
        go_ret
        exact ⟨true, rfl, ⟨fun _ => HB.out.2, fun _ => rfl⟩, HB.out.1⟩
  · have hne : ((n : Int) != n2) = true := by rw [bne_iff_ne]; omega
    have HN := Lib.hid (show ¬ l = m from fun e => hnn (by rw [← HL.out.1, ← HL.out.2, e])); clear hnn
    go_enter Tryz.func19, Tryz.ntmps19
    go_wp2_with fail
    go_ret
    exact ⟨false, rfl, ⟨fun h => (by cases h), fun h => absurd h HN.out⟩, Below.refl _ _⟩
theorem putsT_paths : ∀ (L : List NE) {ys : List NE}, Up ordS ys → Paths ys → (∀ e ∈ ys, e.1.size ≤ 90000) → (∀ e ∈ L, e.1.size ≤ 90000) → Up ordS (putsT ys L).2 ∧ Paths (putsT ys L).2 ∧ ∀ e ∈ (putsT ys L).2, e.1.size ≤ 90000
  | [], ys, h1, h2, h3, _ => ⟨h1, h2, h3⟩
  | x :: L, ys, h1, h2, h3, h4 => by
    unfold putsT
    split
    · rename_i hm
      refine putsT_paths L ?_ (h2.ofPut x.1 x.2) (fun e he => ?_) (fun e he => h4 e (List.mem_cons_of_mem _ he))
      · unfold putT; rw [if_pos hm]; exact put_up ordS_ord _ _ _ h1
      · unfold putT at he
        rw [if_pos hm] at he
        rcases put_mem x.1 x.2 ys e he with rfl | he
        · exact h4 x (List.mem_cons_self ..)
        · exact h3 e he
    · exact ⟨h1, h2, h3⟩
set_option maxRecDepth 100000 in
set_option maxHeartbeats 4000000 in
theorem ref16Of_any (w : World) (v : Value) (l : List NE) (h : SlV w 5 eCSN v l) (hl : l.length ≤ 500) (hin : ∀ x ∈ l, x.1.size ≤ 90000 ∧ NdIn x.2) :
    Calls Tryz.prog 64 #[v] w fun e w' => ∃ A j c, ∃ k : Int, e = .returned (.tuple #[.slice A j c, .int .i64 k, .int .i64 (putsT [] l).1]) ∧ ((putsT [] l).1 = 0 → OwnIt w' w.heap.size (.slice A j c) (putsT [] l).2) ∧ Below w.heap.size w w' := by
  obtain ⟨A, c, rfl, hc1, hc2, hsl⟩ := h
  obtain ⟨n, hn⟩ : ∃ n, l.length = n := ⟨_, rfl⟩
  rw [hn] at hc1 hl ⊢
  unfold maxLen at hc2
  have HL := Lib.hid (And.intro hn (And.intro hsl hin)); clear hn hsl hin
  go_enter Tryz.func64, Tryz.ntmps64
  go_wp2_with fail
  go_loopw [5, 12] (fun ov iv wr => ∃ (i : Nat) (ys : List NE), i ≤ n ∧ iv = .int .i64 i ∧ OwnIt wr w.heap.size ov ys ∧ putsT [] l = putsT ys (l.drop i) ∧ ys.length ≤ i ∧ Up ordS ys ∧ Paths ys ∧ (∀ e ∈ ys, e.1.size ≤ 90000) ∧ Below w.heap.size w wr) (fun _ iv _ => n - (intOf iv).toNat)
  case atStart => exact ⟨0, [], Nat.zero_le _, rfl, World.ownsRow_nil _ _ _ _, by rw [List.drop_zero], Nat.le_refl _, List.Pairwise.nil, fun _ h => absurd h (by simp), fun _ h => absurd h (by simp), Below.refl _ _⟩
  case round =>
    obtain ⟨i, ys, hi, rfl, ho, hps, hyl, hyu, hyp, hyo, hb⟩ := hrel
    obtain ⟨A5, c5, rfl, _, _, _⟩ := SlV_of_any ho
    by_cases hlt : i < n
    · have hiL : i < l.length := by rw [HL.out.1]; exact hlt
      obtain ⟨b, off, rfl, hbb, hcs⟩ := (HL.out.2.1.below hb (Nat.le_refl _)) (by omega)
      have c0 := hcs i hiL 0 (by omega)
      have c1 := hcs i hiL 1 (by omega)
      have c2 := hcs i hiL 2 (by omega)
      have c3' := hcs i hiL 3 (by omega)
      have c4 := hcs i hiL 4 (by omega)
      simp only [eCSN, List.getElem?_cons_succ, List.getElem?_cons_zero, Nat.add_zero] at c0 c1 c2 c3' c4
      clear hcs
      have hi1 : (i : Int) < n := by omega
      obtain ⟨hq, hni⟩ := HL.out.2.2 l[i] (List.getElem_mem hiL)
      have hst := putsT_step ys l i hiL
      obtain ⟨⟨q, kd, md, tm, dt⟩, hx⟩ : ∃ x, l[i] = x := ⟨_, rfl⟩
      simp only [hx] at c0 c1 c2 c3' c4 hq hni hst
      clear hx
      have hba := (Below.refl wr.heap.size wr).alloc (Nat.le_refl _) (.cells #[.string q, .int .i64 kd, .int .i64 md, .int .u32 tm, .string dt] 32)
      have HP := Lib.hid (ref16Put_any _ w.heap.size (.slice A5 ys.length c5) ys q ⟨kd, md, tm, dt⟩ (ho.below hba) (Nat.le_trans hb.size hba.size) hyu hyp (by omega) hyo (by omega) hni.t0 hni.t1 hni.size)
      have hpl := putT_len ys q ⟨kd, md, tm, dt⟩
      have hpu : Up ordS (putT ys q ⟨kd, md, tm, dt⟩) := by unfold putT; split; exact put_up ordS_ord _ _ _ hyu; exact hyu
      have hpo : ∀ e ∈ putT ys q ⟨kd, md, tm, dt⟩, e.1.size ≤ 90000 := fun e he => by
        unfold putT at he
        split at he
        · rcases put_mem q _ ys e he with rfl | he
          · exact hq
          · exact hyo e he
        · exact hyo e he
      have HQ := Lib.hid (And.intro (hps.trans hst) (And.intro (hb.trans (hba.mono hb.size)) (And.intro hpu (And.intro (hyp.ofPut q ⟨kd, md, tm, dt⟩) hpo)))); clear hba ho hps hst hb hpu hpo hyu hyp hyo
      generalize mayT ys q ⟨kd, md, tm, dt⟩ = why at *
      generalize putT ys q ⟨kd, md, tm, dt⟩ = zs at *
      simp only [Nd.c] at HP
      obtain ⟨ny, hny⟩ : ∃ ny, ys.length = ny := ⟨_, rfl⟩
      rw [hny] at HP hyl hpl
      rw [hny]
      clear hny
      go_wp2_with fail
      refine HP.out.mono ?_
      rintro e1 w3 ⟨r, rfl, ho3, hb3⟩
      obtain ⟨A6, c6, rfl, _, _, _⟩ := SlV_of_any ho3
      have H3 := Lib.hid (And.intro ho3 (HQ.out.2.1.trans (hb3.mono HQ.out.2.1.size))); clear ho3 hb3 HP
      by_cases hw : why = 0
      · have hwe : (why != 0) = false := by rw [hw]; rfl
        have HF := Lib.hid (show putsT [] l = putsT zs (l.drop (i + 1)) from by rw [HQ.out.1, if_pos hw]); clear hw
        go_wp2_with fail
        go_roundw
        case rel => exact ⟨i + 1, zs, by omega, by go_num, H3.out.1, HF.out, by omega, HQ.out.2.2.1, HQ.out.2.2.2.1, HQ.out.2.2.2.2, H3.out.2⟩
        case measure => simp [intOf]; omega
      · have hwe : (why != 0) = true := by rw [bne_iff_ne]; exact hw
        have HF := Lib.hid (show putsT [] l = (why, ys) from by rw [HQ.out.1, if_neg hw])
        have HW := Lib.hid hw; clear hw
        go_wp2_with fail
        refine bodyPost_ret (results_tmp3 rfl _ _ _) rfl ?_
        rw [HF.out]
        exact ⟨_, _, _, _, rfl, fun h => absurd h HW.out, H3.out.2⟩
    · obtain rfl : n = i := by omega
      rw [List.drop_of_length_le (by rw [HL.out.1]; omega)] at hps
      have hps' : putsT [] l = (0, ys) := hps
      have HF := Lib.hid (And.intro hps' (And.intro ho hb)); clear hps hps' ho hb hyu hyp hyo
      go_wp2_with fail
      refine bodyPost_ret (results_tmp3 rfl _ _ _) rfl ?_
      rw [HF.out.1]
      exact ⟨_, _, _, _, rfl, fun _ => HF.out.2.1, HF.out.2.2⟩
set_option maxRecDepth 100000 in
set_option maxHeartbeats 4000000 in
theorem ref16Right_any (w : World) (v : Value) (l : List NE) (h : SlV w 5 eCSN v l) (hl : l.length ≤ 500) (hin : ∀ x ∈ l, x.1.size ≤ 90000 ∧ NdIn x.2) :
    Calls Tryz.prog 23 #[v] w fun e w' => ∃ R : Bool, e = .returned (.bool R) ∧ (R = true ↔ putsT [] l = (0, l)) ∧ Below w.heap.size w w' := by
  have HO := Lib.hid (ref16Of_any w v l h hl hin)
  have HH := Lib.hid h
  obtain ⟨A, c, rfl, hc1, hc2, hsl⟩ := h
  obtain ⟨n, hn⟩ : ∃ n, l.length = n := ⟨_, rfl⟩
  rw [hn] at HO HH
  rw [hn]
  clear hsl hc1 hc2 hn hl
  obtain ⟨⟨why, ys⟩, hP⟩ : ∃ p, putsT [] l = p := ⟨_, rfl⟩
  rw [hP] at HO
  have HP := Lib.hid hP; clear hP
  simp only at HO
  by_cases hw : why = 0
  · have hwe : (why == 0) = true := by rw [hw]; rfl
    have HW := Lib.hid hw; clear hw
    go_enter Tryz.func23, Tryz.ntmps23
    go_wp2_with fail
    refine HO.out.mono ?_
    rintro e w1 ⟨A1, j1, c1, k1, rfl, ho1, hb1⟩
    have ho2 := ho1 HW.out
    have HWH := Lib.hid (ref16Whole_any w1 _ _ ys l ho2.slv (HH.out.below hb1 (Nat.le_refl _)))
    have HB := Lib.hid hb1; clear ho1 ho2 hb1 HO
    go_wp2_with fail
    refine HWH.out.mono ?_
    rintro e w2 ⟨R, rfl, hR, hb2⟩
    have HF := Lib.hid (And.intro hR (HB.out.trans (hb2.mono HB.out.size))); clear hR hb2 HWH
    go_wp2_with fail
    go_ret
    rw [HP.out]
    refine ⟨R, rfl, ?_, HF.out.2⟩
    rw [HF.out.1, HW.out]
    exact ⟨fun e => by rw [e], fun e => congrArg Prod.snd e⟩
  · have hwe : (why == 0) = false := by rw [beq_eq_false_iff_ne]; exact hw
    have HW := Lib.hid hw; clear hw
    go_enter Tryz.func23, Tryz.ntmps23
    go_wp2_with fail
    refine HO.out.mono ?_
    rintro e w1 ⟨A1, j1, c1, k1, rfl, ho1, hb1⟩
    have HB := Lib.hid hb1; clear ho1 hb1 HO
    go_wp2_with fail
    go_ret
    rw [HP.out]
    exact ⟨false, rfl, ⟨fun h => (by cases h), fun e => absurd (congrArg Prod.fst e) HW.out⟩, HB.out⟩
end Go.Proofs.YtcpmhjealiajpaaGreatDoor
/- The example of layer 18's laws. -/
set_option linter.unusedVariables false
set_option linter.unusedSimpArgs false
namespace Sw
theorem lives18_put : putW (-1) [] aS dirL = 0 ∧ putT [] aS dirL = [(aS, dirL)] ∧ renW [(aS, dirL)] aS abS = 1 := ⟨by kernel_rfl, lives_put.2.1, by kernel_rfl⟩
theorem lives18_ti : TI [(aS, dirL)] := by
  have := TI.nil.putT aS dirL
  rw [lives_put.2.1] at this
  exact this
end Sw
namespace Go.Proofs.YtcpmhjealiajpaaGreatDoor
open Go Go.RowKit
open Sw
theorem parent_small (p : ByteArray) : (parentS p).size ≤ 200 := by
  rcases parent_last p with ⟨_, h⟩ | ⟨h, he, _⟩
  · rw [h]; decide
  · rw [← he, List.getLast_eq_getElem]; exact (ups_step p _ (by have := List.length_pos_iff.2 h; omega : (upsS p).length - 1 < (upsS p).length)).2.1
set_option maxRecDepth 100000 in
set_option maxHeartbeats 2000000 in
theorem lives18_any (w : World) : Calls Tryz.prog 24 #[] w fun e w' => e = .returned (.bool true) ∧ Below w.heap.size w w' := by
  have HN := Lib.hid (dirNew_any w (-1))
  go_enter Tryz.func24, Tryz.ntmps24
  go_wp2_with fail
  refine HN.out.mono ?_
  rintro e w1 ⟨bd, bt, bm, rfl, hd, hbd, hb1⟩
  have h1 := dirPut_any w1 bd bt bm ⟨-1, -1, 0, false, []⟩ 0 aS dirL hd ⟨by decide, by decide, by decide, by decide⟩ (by decide) (by decide) (by decide) (by have := parent_small aS; omega) dirL_in (by rw [lives18_put.2.1]; decide)
  simp only [lives18_put.1, lives18_put.2.1] at h1
  have hs : stepD ⟨-1, -1, 0, false, []⟩ 0 [(aS, dirL)] = (0, ⟨-1, -1, 1, false, [(aS, dirL)]⟩) := rfl
  rw [hs] at h1
  simp only [Nd.c, dirL, aS] at h1
  have H1 := Lib.hid h1
  have HB1 := Lib.hid hb1; clear h1 hb1 hd HN hs
  go_wp2_with fail
  refine H1.out.mono ?_
  rintro e w2 ⟨rfl, ⟨bt2, bm2, hd2⟩, hg2⟩
  have HB2 := Lib.hid (below_grown HB1.out hg2 hbd HB1.out.size)
  have h2 := dirRename_any w2 bd bt2 bm2 ⟨-1, -1, 1, false, [(aS, dirL)]⟩ 1 aS abS hd2 lives18_ti ⟨by decide, by decide, by decide, by decide⟩ (by decide) (by decide) (by decide) (by decide) (fun e he => by
    obtain rfl : e = (aS, dirL) := by simpa using he
    exact ⟨by decide, dirL_in⟩)
  simp only [lives18_put.2.2] at h2
  have hs : stepD ⟨-1, -1, 1, false, [(aS, dirL)]⟩ 1 (renT [(aS, dirL)] aS abS) = (1, ⟨-1, -1, 1, false, [(aS, dirL)]⟩) := rfl
  rw [hs] at h2
  simp only [aS, abS] at h2
  have H2 := Lib.hid h2; clear h2 hd2 hg2 H1 HB1 hs
  go_wp2_with fail
  refine H2.out.mono ?_
  rintro e w3 ⟨rfl, ⟨bt3, bm3, hd3⟩, hg3⟩
  have HB3 := Lib.hid (below_grown HB2.out hg3 hbd HB2.out.size)
  have H3 := Lib.hid ((dirOps_any w3 bd bt3 bm3 _ hd3).mono (fun e w' h => (⟨h.1, h.2⟩ : e = .returned (.int .i64 1) ∧ w3 = w'))); clear hd3 hg3 H2 HB2
  go_wp2_with fail
  refine H3.out.mono ?_
  rintro e _ ⟨rfl, rfl⟩
  go_wp2_with fail
  go_ret
  exact ⟨rfl, HB3.out⟩
end Go.Proofs.YtcpmhjealiajpaaGreatDoor
/- The law's Light: are the steps few and small? -/
set_option linter.unusedVariables false
set_option linter.unusedSimpArgs false
namespace Go.Proofs.YtcpmhjealiajpaaGreatDoor
open Go Go.RowKit
open Sw
/-- a small step -/
def SmallE (e : NE) : Prop := e.1.size ≤ 100 ∧ e.2.data.size ≤ 500
set_option maxRecDepth 100000 in
set_option maxHeartbeats 4000000 in
theorem light16_any (w : World) (v : Value) (l : List NE) (h : SlV w 5 eCSN v l) (hsz : ∀ e ∈ l, e.1.size ≤ maxLen ∧ e.2.data.size ≤ maxLen) :
    Calls Tryz.prog 7 #[v] w fun e w' => ∃ R : Bool, e = .returned (.bool R) ∧ (R = true → l.length ≤ 30 ∧ ∀ e ∈ l, SmallE e) ∧ Below w.heap.size w w' := by
  obtain ⟨A, c, rfl, hc1, hc2, hsl⟩ := h
  obtain ⟨n, hn⟩ : ∃ n, l.length = n := ⟨_, rfl⟩
  rw [hn] at hc1 ⊢
  unfold maxLen at hc2 hsz
  have HL := Lib.hid hn; clear hn
  have HS := Lib.hid hsl; clear hsl
  have HZ := Lib.hid hsz; clear hsz
  by_cases h30 : n ≤ 30
  · go_enter Tryz.func7, Tryz.ntmps7
    go_wp2_with fail
    go_loopw [4, 10] (fun _ iv wr => ∃ i : Nat, i ≤ n ∧ iv = .int .i64 i ∧ (∀ k (hk : k < l.length), k < i → SmallE l[k]) ∧ Below w.heap.size w wr) (fun _ iv _ => n - (intOf iv).toNat)
    case atStart => exact ⟨0, Nat.zero_le _, rfl, fun k _ h => absurd h (Nat.not_lt_zero _), Below.refl _ _⟩
    case round =>
      obtain ⟨i, hi, rfl, hall, hb⟩ := hrel
      have HA := Lib.hid hall; clear hall
      by_cases hlt : i < n
      · have hiL : i < l.length := by have := HL.out; omega
        obtain ⟨b, off, rfl, hbb, hcs⟩ := (HS.out.below hb (Nat.le_refl _)) (by omega)
        have c0 := hcs i hiL 0 (by omega)
        have c1 := hcs i hiL 1 (by omega)
        have c2 := hcs i hiL 2 (by omega)
        have c3' := hcs i hiL 3 (by omega)
        have c4 := hcs i hiL 4 (by omega)
        simp only [eCSN, List.getElem?_cons_succ, List.getElem?_cons_zero, Nat.add_zero] at c0 c1 c2 c3' c4
        clear hcs
        have hi1 : (i : Int) < n := by omega
        obtain ⟨hz1, hz2⟩ := HZ.out l[i] (List.getElem_mem hiL)
        obtain ⟨x, hx⟩ : ∃ x, l[i] = x := ⟨_, rfl⟩
        simp only [hx] at c0 c1 c2 c3' c4 hz1 hz2
        have HX := Lib.hid hx; clear hx
        have HB := Lib.hid (hb.alloc hb.size (.cells #[.string x.1, .int .i64 x.2.kind, .int .i64 x.2.mode, .int .u32 x.2.time, .string x.2.data] 32)); clear hb
        by_cases s1 : x.1.size ≤ 100
        · by_cases s2 : x.2.data.size ≤ 500
          · have s1' : (x.1.size : Int) ≤ 100 := by omega
            have s2' : (x.2.data.size : Int) ≤ 500 := by omega
            go_wp2_with fail
            go_roundw
            case rel => exact ⟨i + 1, by omega, by go_num, fun k hk hki => by
              by_cases e : k = i
              · subst e; rw [HX.out]; exact ⟨s1, s2⟩
              · exact HA.out k hk (by omega), HB.out⟩
            case measure => simp [intOf]; omega
          · have s1' : (x.1.size : Int) ≤ 100 := by omega
            have s2' : (500 : Int) < x.2.data.size := by omega
            go_wp2_with fail
            go_ret
            exact ⟨false, rfl, fun h => absurd h (by decide), HB.out⟩
        · have s1' : (100 : Int) < x.1.size := by omega
          go_wp2_with fail
          go_ret
          exact ⟨false, rfl, fun h => absurd h (by decide), HB.out⟩
      · obtain rfl : i = n := by omega
        have HB := Lib.hid hb; clear hb
        go_wp2_with fail
        go_ret
        exact ⟨true, rfl, fun _ => ⟨h30, fun e he => by
          obtain ⟨k, hk, rfl⟩ := List.mem_iff_getElem.1 he
          exact HA.out k hk (by have := HL.out; omega)⟩, HB.out⟩
  · have h31 : (30 : Int) < n := by omega
    go_enter Tryz.func7, Tryz.ntmps7
    go_wp2_with fail
    go_ret
    exact ⟨false, rfl, fun h => absurd h (by decide), Below.refl _ _⟩
end Go.Proofs.YtcpmhjealiajpaaGreatDoor
/- Arguments that are rows of items, opened. -/
set_option linter.unusedVariables false
namespace Go.Proofs.YtcpmhjealiajpaaGreatDoor
open Go Go.ChangeShapes Go.WideShapes Go.ChangeAt Go.RowKit
open Sw
/-- an item that came in -/
def NEIn (e : NE) : Prop := e.1.size ≤ maxLen ∧ NdIn e.2
set_option maxRecDepth 100000 in
theorem dec_node {H : Type} {enc : TypeId × Value → H} {w : World} (fuel : Nat) (cs : List Value) (x : DataW H × List MemPlace) (h : DataW.trod enc Tryz.prog w 0 (fun _ => true) true fuel 30 cs = some x) :
    ∃ n : Nd, cs = [.int .i64 n.kind, .int .i64 n.mode, .int .u32 n.time, .string n.data] ∧ NdIn n := by
  obtain ⟨hl, hff⟩ := dec_fields Tryz.underlying30 (by kernel_rfl) (by kernel_rfl) h
  match cs, hl with
  | [c0, c1, c2, c3], _ =>
    obtain ⟨v0, n0, y0, e0, h0⟩ := hff 0 _ rfl
    obtain ⟨v1, n1, y1, e1, h1⟩ := hff 1 _ rfl
    obtain ⟨v2, n2, y2, e2, h2⟩ := hff 2 _ rfl
    obtain ⟨v3, n3, y3, e3, h3⟩ := hff 3 _ rfl
    simp at e0 e1 e2 e3
    subst e0 e1 e2 e3
    obtain ⟨k0, ek0, _, _⟩ := DataW.trod_int Tryz.underlying3 h0
    obtain ⟨k1, ek1, _, _⟩ := DataW.trod_int Tryz.underlying3 h1
    obtain ⟨k2, ek2, _, wk⟩ := DataW.trod_int Tryz.underlying28 h2
    obtain ⟨s, hs, _, hl⟩ := DataW.trod_string Tryz.underlying9 h3
    obtain ⟨b0, b1⟩ := bounds_u32 wk
    simp at ek0 ek1 ek2 hs
    subst ek0 ek1 ek2 hs
    exact ⟨⟨k0, k1, k2, s⟩, rfl, b0, by show k2 < 4294967296; omega, hl⟩
set_option maxRecDepth 100000 in
theorem dec_item {H : Type} {enc : TypeId × Value → H} {w : World} (fuel : Nat) (cs : List Value) (x : DataW H × List MemPlace) (h : DataW.trod enc Tryz.prog w 0 (fun _ => true) true fuel 32 cs = some x) :
    ∃ e : NE, cs = eCSN e ∧ NEIn e := by
  obtain ⟨y0, y1, n, _, hl, h0, h1⟩ := trod_struct2 Tryz.underlying32 h
  have hl5 : cs.length = 5 := hl.trans (by kernel_rfl)
  match cs, hl5 with
  | [c0, c1, c2, c3, c4], _ =>
    rw [show Tryz.prog.cellsOf 9 = 1 by kernel_rfl] at h0
    rw [show Tryz.prog.cellsOf 30 = 4 by kernel_rfl] at h1
    simp only [List.drop_zero, List.drop_succ_cons, List.take_succ_cons, List.take_zero] at h0 h1
    obtain ⟨s, hs, _, hsz⟩ := DataW.trod_string Tryz.underlying9 h0
    simp at hs
    subst hs
    obtain ⟨m, hm, hin⟩ := dec_node _ _ _ h1
    simp at hm
    obtain ⟨rfl, rfl, rfl, rfl⟩ := hm
    exact ⟨(s, m), rfl, hsz, hin⟩
end Go.Proofs.YtcpmhjealiajpaaGreatDoor
/- TreePlays: the tree and the reference's row behind some steps. -/
set_option linter.unusedVariables false
set_option linter.unusedSimpArgs false
namespace Go.Proofs.YtcpmhjealiajpaaGreatDoor
open Go Go.RowKit
open Sw
theorem parent_size (p : ByteArray) : (parentS p).size ≤ 200 := by
  rcases parent_last p with ⟨_, h⟩ | ⟨h, he, _⟩
  · rw [h]; decide
  · rw [← he, List.getLast_eq_getElem]; exact (ups_step p _ _).2.1
/-- behind some steps: the tree, the reference's row, and the box of the last argument; the tree holds ys, the row xs -/
structure PlM (w0 : World) (T bt bm : Nat) (m : Value) (xv : Value) (xs ys : List NE) (W : World) : Prop where
  tree : TreeAt W bt bm ys
  row : OwnIt W w0.heap.size xv xs
  box : Blk W T 23 #[m]
  hbm : w0.heap.size ≤ bm
  old : Below w0.heap.size w0 W
/-- what a row of items of a tree keeps -/
structure Fit (xs : List NE) (k : Nat) : Prop where
  len : xs.length ≤ k
  up : Up ordS xs
  paths : Paths xs
  ok : ∀ e ∈ xs, e.1.size ≤ 90000
  small : ∀ e ∈ xs, e.2.data.size ≤ 500
section
variable {w0 W W' : World} {T bt bm : Nat} {m xv : Value} {xs ys zs : List NE}
theorem PlM.below (h : PlM w0 T bt bm m xv xs ys W) (hb : Below W.heap.size W W') : PlM w0 T bt bm m xv xs ys W' :=
  ⟨h.tree.below hb, h.row.below hb, h.box.below hb h.box.lt, h.hbm, h.old.trans (hb.mono h.old.size)⟩
theorem PlM.turn (h : PlM w0 T bt bm m xv xs ys W) (ht : TreeAt W' bt bm zs) (hg : W.grownBy W' (some bm)) : PlM w0 T bt bm m xv xs zs W' := by
  obtain ⟨v, hb, _⟩ := h.tree.map.row
  exact ⟨ht, h.row.kept hg (.inr (own_ne_blk h.row hb (by decide))), h.box.grown hg (fun e => Blk.other h.box hb (by decide) (Option.some.inj e)), h.hbm, below_grown h.old hg h.hbm h.old.size⟩
theorem Fit.nil (k : Nat) : Fit [] k := ⟨Nat.zero_le _, List.Pairwise.nil, fun _ h => absurd h (by simp), fun _ h => absurd h (by simp), fun _ h => absurd h (by simp)⟩
end
theorem Fit.put {xs : List NE} {k : Nat} (h : Fit xs k) (p : ByteArray) (n : Nd) (hp : p.size ≤ 90000) (hn : n.data.size ≤ 500) : Fit (putT xs p n) (k + 1) := by
  have hm : ∀ e ∈ putT xs p n, e = (p, n) ∨ e ∈ xs := fun e he => by
    unfold putT at he
    split at he
    · exact put_mem p n xs e he
    · exact .inr he
  refine ⟨Nat.le_trans (putT_len xs p n) (by have := h.len; omega), ?_, h.paths.ofPut p n, fun e he => ?_, fun e he => ?_⟩
  · unfold putT
    split
    · exact put_up ordS_ord p n xs h.up
    · exact h.up
  · rcases hm e he with rfl | he
    · exact hp
    · exact h.ok e he
  · rcases hm e he with rfl | he
    · exact hn
    · exact h.small e he
theorem Fit.drop {xs : List NE} {k : Nat} (h : Fit xs k) (p : ByteArray) : Fit (dropT xs p) (k + 1) := by
  have hm : ∀ e ∈ dropT xs p, e ∈ xs := fun e he => by
    unfold dropT at he
    split at he
    · exact drop_mem p xs e he
    · exact he
  refine ⟨Nat.le_trans (dropT_len xs p) (by have := h.len; omega), ?_, h.paths.ofDrop p, fun e he => h.ok e (hm e he), fun e he => h.small e (hm e he)⟩
  unfold dropT
  split
  · exact drop_up ordS_ord p xs h.up
  · exact h.up
theorem plPut_any {w0 : World} {T bt bm : Nat} {m xv : Value} {xs : List NE} {k : Nat} (W : World) (p : ByteArray) (n : Nd) (h : PlM w0 T bt bm m xv xs xs W) (hf : Fit xs k) (hk : k ≤ 30) (hp : p.size ≤ 90000) (hin : NdIn n) :
    Calls Tryz.prog 12 #[.pointer (some ⟨bt, 0, none⟩), .string p, .agg n.c] W fun e w' => e = .returned (.int .i64 (mayT xs p n)) ∧ PlM w0 T bt bm m xv xs (putT xs p n) w' ∧ W.grownBy w' (some bm) :=
  (treePut_any W bt bm xs p n h.tree (by have := hf.len; omega) hp (by have := parent_size p; omega) hin).mono fun e w' ⟨h1, h2, h3⟩ => ⟨h1, h.turn h2 h3, h3⟩
theorem plDrop_any {w0 : World} {T bt bm : Nat} {m xv : Value} {xs : List NE} {k : Nat} (W : World) (p : ByteArray) (h : PlM w0 T bt bm m xv xs xs W) (hf : Fit xs k) (hk : k ≤ 30) (hp : p.size ≤ 90000) :
    Calls Tryz.prog 10 #[.pointer (some ⟨bt, 0, none⟩), .string p] W fun e w' => e = .returned (.int .i64 (whyDrop xs p)) ∧ PlM w0 T bt bm m xv xs (dropT xs p) w' ∧ W.grownBy w' (some bm) :=
  (treeDrop_any W bt bm xs p h.tree (by have := hf.len; omega) hp).mono fun e w' ⟨h1, h2, h3⟩ => ⟨h1, h.turn h2 h3, h3⟩
theorem plRefPut_any {w0 : World} {T bt bm : Nat} {m xv : Value} {xs : List NE} {k : Nat} (W : World) (p : ByteArray) (n : Nd) (h : PlM w0 T bt bm m xv xs (putT xs p n) W) (hf : Fit xs k) (hk : k ≤ 30) (hp : p.size ≤ 90000) (hin : NdIn n) :
    Calls Tryz.prog 13 #[xv, .string p, .agg n.c] W fun e w' => ∃ A j c, e = .returned (.tuple #[.slice A j c, .int .i64 (mayT xs p n)]) ∧ j = (putT xs p n).length ∧ PlM w0 T bt bm m (.slice A j c) (putT xs p n) (putT xs p n) w' ∧ Below W.heap.size W w' :=
  (ref16Put_any W w0.heap.size xv xs p n h.row h.old.size hf.up hf.paths (by have := hf.len; omega) hf.ok hp hin.t0 hin.t1 hin.size).mono fun e w' ⟨r, h1, h2, h3⟩ => by
    obtain ⟨A, c, rfl, _, _, _⟩ := SlV_of_any h2
    exact ⟨A, _, c, h1, rfl, ⟨h.tree.below h3, h2, h.box.below h3 h.box.lt, h.hbm, h.old.trans (h3.mono h.old.size)⟩, h3⟩
theorem plRefDrop_any {w0 : World} {T bt bm : Nat} {m xv : Value} {xs : List NE} {k : Nat} (W : World) (p : ByteArray) (h : PlM w0 T bt bm m xv xs (dropT xs p) W) (hf : Fit xs k) (hk : k ≤ 30) :
    Calls Tryz.prog 11 #[xv, .string p] W fun e w' => ∃ A j c, e = .returned (.tuple #[.slice A j c, .int .i64 (whyDrop xs p)]) ∧ j = (dropT xs p).length ∧ PlM w0 T bt bm m (.slice A j c) (dropT xs p) (dropT xs p) w' ∧ Below W.heap.size W w' :=
  (ref16Drop_any W w0.heap.size xv xs p h.row h.old.size hf.up hf.paths (by have := hf.len; omega) hf.ok).mono fun e w' ⟨r, h1, h2, h3⟩ => by
    obtain ⟨A, c, rfl, _, _, _⟩ := SlV_of_any h2
    exact ⟨A, _, c, h1, rfl, ⟨h.tree.below h3, h2, h.box.below h3 h.box.lt, h.hbm, h.old.trans (h3.mono h.old.size)⟩, h3⟩
end Go.Proofs.YtcpmhjealiajpaaGreatDoor
/- TreePlays: laws on structs, and rows; what stands at the end. -/
set_option linter.unusedVariables false
set_option linter.unusedSimpArgs false
namespace Go.Proofs.YtcpmhjealiajpaaGreatDoor
open Go Go.RowKit
open Sw
theorem neq_node (d : ByteArray) (k m t : Int) (W : World) : (binOp .neq 30 (.agg #[.int .i64 k, .int .i64 m, .int .u32 t, .string d]) (.agg #[.int .i64 k, .int .i64 m, .int .u32 t, .string d])).run Tryz.prog W = .ok (.bool false) W := by
  simp [go_sem, Tryz.underlying30, Tryz.underlying3, Tryz.underlying28, Tryz.underlying9]
theorem bytesT_le : ∀ xs : List NE, (∀ e ∈ xs, e.2.data.size ≤ 500) → bytesT xs ≤ 500 * xs.length
  | [], _ => Nat.le_refl _
  | e :: xs, h => by
    have h1 := bytesT_le xs (fun a ha => h a (List.mem_cons_of_mem _ ha))
    have h2 := h e (List.mem_cons_self ..)
    have h3 : bytesT (e :: xs) = e.2.data.size + bytesT xs := by unfold bytesT; rw [List.map_cons, List.sum_cons]
    rw [h3, List.length_cons]
    omega
theorem bytesT_step (xs : List NE) (j : Nat) (h : j < xs.length) : bytesT (xs.take (j + 1)) = bytesT (xs.take j) + xs[j].2.data.size := by
  rw [List.take_succ_eq_append_getElem h, bytesT_app]
  unfold bytesT
  simp
theorem undT_step (p : ByteArray) (xs : List NE) (j : Nat) (h : j < xs.length) : undT p (xs.take (j + 1)) = undT p (xs.take j) ++ if awayT p xs[j] = true then [] else [xs[j]] := by
  unfold undT
  rw [List.take_succ_eq_append_getElem h, List.filter_append]
  congr 1
  cases h2 : awayT p xs[j] <;> simp [h2]
theorem undT_len (p : ByteArray) (xs : List NE) : (undT p xs).length ≤ xs.length := List.length_filter_le _ _
theorem slv_cutI {w : World} {size : Nat} {α : Type} {E : α → List Value} {A : Option Addr} {n c : Nat} {l : List α} (h : SlV w size E (.slice A n c) l) (j : Nat) (hj : j ≤ n) : SlV w size E (.slice A j c) (l.take j) := by
  obtain ⟨A', c', hv, h1, h2, h3⟩ := h
  obtain ⟨rfl, rfl, rfl⟩ : A = A' ∧ n = l.length ∧ c = c' := by injection hv with e1 e2 e3; exact ⟨e1, e2, e3⟩
  exact ⟨A, c, by rw [List.length_take, Nat.min_eq_left hj], by rw [List.length_take]; omega, h2, h3.take j⟩
/-- behind some words of the tree: the row in the box holds them -/
def GtI (Tg M : Nat) (pre : List NE) (W : World) : Prop := (pre.length ≤ M ∧ Tg + 1 ≤ W.heap.size) ∧ ∃ o, Blk W Tg 22 #[o] ∧ OwnIt W Tg o pre
def GtX (Tg M : Nat) (c : Code) (pre : List NE) (W : World) : Prop := ∃ (pre' : List NE) (x : NE), pre = pre' ++ [x] ∧ pre'.length = M ∧ c = .exit 4 ∧ Tg + 1 ≤ W.heap.size ∧ ∃ o, Blk W Tg 22 #[o] ∧ OwnIt W Tg o pre'
theorem GtI.own (Tg M : Nat) : Own (GtI Tg M) := fun _ A B row hs hg hr => ⟨⟨hs.1.1, Nat.le_trans hs.1.2 hg.size⟩, by obtain ⟨o, h1, h2⟩ := hs.2; exact ⟨o, blk_ownF h1 hg hr, own_ownF h2 hg hr⟩⟩
theorem GtX.own (Tg M : Nat) (c : Code) : Own (GtX Tg M c) := fun _ A B row hs hg hr => by
  obtain ⟨p', x, e1, e2, e3, e4, o, h1, h2⟩ := hs
  exact ⟨p', x, e1, e2, e3, Nat.le_trans e4 hg.size, o, blk_ownF h1 hg hr, own_ownF h2 hg hr⟩
theorem GtI.below {Tg M : Nat} {pre : List NE} {A B : World} (hs : GtI Tg M pre A) (hb : Below A.heap.size A B) : GtI Tg M pre B := ⟨⟨hs.1.1, Nat.le_trans hs.1.2 hb.size⟩, by obtain ⟨o, h1, h2⟩ := hs.2; exact ⟨o, h1.below hb h1.lt, h2.below hb⟩⟩
/-- what stands behind the range -/
structure PlZ (w : World) (bt bm Tg D : Nat) (mo : Value) (xv uv gv : Value) (xs us gs : List NE) (W : World) : Prop where
  pl : PlM w w.heap.size bt bm mo xv xs xs W
  und : OwnIt W w.heap.size uv us
  box : Blk W Tg 22 #[gv]
  got : OwnIt W w.heap.size gv gs
  dfr : W.heap[D]? = some (Obj.deferred (some []))
theorem PlZ.below {w : World} {bt bm Tg D : Nat} {mo xv uv gv : Value} {xs us gs : List NE} {W W' : World} (h : PlZ w bt bm Tg D mo xv uv gv xs us gs W) (hb : Below W.heap.size W W') : PlZ w bt bm Tg D mo xv uv gv xs us gs W' :=
  ⟨h.pl.below hb, h.und.below hb, h.box.below hb h.box.lt, h.got.below hb, by rw [hb.block D (Array.getElem?_eq_some_iff.1 h.dfr).1]; exact h.dfr⟩
end Go.Proofs.YtcpmhjealiajpaaGreatDoor
/- Layer 18's law: its steps, Light, grafts. -/
set_option linter.unusedVariables false
set_option linter.unusedSimpArgs false
namespace Sw
open Go
/-- a step -/
structure St18 where
  kind : Int
  path : ByteArray
  goal : ByteArray
  node : Nd
  n : Int
def st18C (s : St18) : List Value := [.int .u64 s.kind, .string s.path, .string s.goal, .int .i64 s.node.kind, .int .i64 s.node.mode, .int .u32 s.node.time, .string s.node.data, .int .i64 s.n]
theorem st18C_len (s : St18) : (st18C s).length = 8 := rfl
def St18In (s : St18) : Prop := (0 ≤ s.kind ∧ s.kind < 18446744073709551616) ∧ s.path.size ≤ maxLen ∧ s.goal.size ≤ maxLen ∧ Go.Proofs.YtcpmhjealiajpaaGreatDoor.NdIn s.node ∧ (-9223372036854775808 ≤ s.n ∧ s.n ≤ 9223372036854775807)
def Small18 (s : St18) : Prop := s.path.size ≤ 100 ∧ s.goal.size ≤ 100 ∧ s.node.data.size ≤ 500
/-- what a step grafts -/
def graftsL (s : St18) : List NE := if s.n < 0 then [] else if s.n % 2 = 0 then [(s.path, s.node)] else [(s.path, s.node), (s.goal, s.node)]
theorem graftsL_len (s : St18) : (graftsL s).length ≤ 2 := by unfold graftsL; split; simp; split <;> simp
theorem graftsL_mem {s : St18} {e : NE} (h : e ∈ graftsL s) : (e.1 = s.path ∨ e.1 = s.goal) ∧ e.2 = s.node := by
  unfold graftsL at h
  split at h
  · cases h
  · split at h
    · simp at h; subst h; exact ⟨.inl rfl, rfl⟩
    · simp at h
      rcases h with rfl | rfl
      · exact ⟨.inl rfl, rfl⟩
      · exact ⟨.inr rfl, rfl⟩
end Sw
namespace Go.Proofs.YtcpmhjealiajpaaGreatDoor
open Go Go.RowKit
open Sw
theorem slof_blk {w : World} {g size : Nat} {t : TypeId} {cs : Array Value} {α : Type} {E : α → List Value} {l : List α} (h : Blk w g t cs) (hl : cs.toList = l.flatMap E) (hE : ∀ x, (E x).length = size) : SlOf w size E (some ⟨g, 0, none⟩) l :=
  fun hn => ⟨g, 0, rfl, h.lt, fun i hi j hj => by
    rw [h.cell, ← Array.getElem?_toList, hl, Nat.zero_add, flat_get hE l i hi j hj]⟩
def Lt18 (l : List St18) (w : World) (e : Ending) (w' : World) : Prop := ∃ R : Bool, e = .returned (.bool R) ∧ (R = true → l.length ≤ 25 ∧ ∀ s ∈ l, Small18 s) ∧ Below w.heap.size w w'
set_option maxRecDepth 100000 in
set_option maxHeartbeats 4000000 in
theorem light18_any (w : World) (v : Value) (l : List St18) (h : SlV w 8 st18C v l) (hin : ∀ s ∈ l, St18In s) :
    Calls Tryz.prog 31 #[v] w (Lt18 l w) := by
  obtain ⟨A, c, rfl, hc1, hc2, hsl⟩ := h
  obtain ⟨n, hn⟩ : ∃ n, l.length = n := ⟨_, rfl⟩
  rw [hn] at hc1 ⊢
  unfold maxLen at hc2
  have HL := Lib.hid hn; clear hn
  have HS := Lib.hid hsl; clear hsl
  have HZ := Lib.hid hin; clear hin
  by_cases h30 : n ≤ 25
  · go_enter Tryz.func31, Tryz.ntmps31
    go_wp2_with fail
    go_loopw [10] (fun iv wr => ∃ i : Nat, i ≤ n ∧ iv = .int .i64 i ∧ (∀ k (hk : k < l.length), k < i → Small18 l[k]) ∧ Below w.heap.size w wr) (fun iv _ => n - (intOf iv).toNat)
    case atStart => exact ⟨0, Nat.zero_le _, rfl, fun k _ h => absurd h (Nat.not_lt_zero _), Below.refl _ _⟩
    case round =>
      obtain ⟨i, hi, rfl, hall, hb⟩ := hrel
      have HA := Lib.hid hall; clear hall
      by_cases hlt : i < n
      · have hiL : i < l.length := by have := HL.out; omega
        obtain ⟨b, off, rfl, hbb, hcs⟩ := (HS.out.below hb (Nat.le_refl _)) (by omega)
        have c0 := hcs i hiL 0 (by omega)
        have c1 := hcs i hiL 1 (by omega)
        have c2 := hcs i hiL 2 (by omega)
        have c3' := hcs i hiL 3 (by omega)
        have c4 := hcs i hiL 4 (by omega)
        have c5 := hcs i hiL 5 (by omega)
        have c6 := hcs i hiL 6 (by omega)
        have c7 := hcs i hiL 7 (by omega)
        simp only [st18C, List.getElem?_cons_succ, List.getElem?_cons_zero, Nat.add_zero] at c0 c1 c2 c3' c4 c5 c6 c7
        clear hcs
        have hi1 : (i : Int) < n := by omega
        obtain ⟨_, hz1, hz2, hz3, _⟩ := HZ.out l[i] (List.getElem_mem hiL)
        have hz4 := hz3.size
        obtain ⟨x, hx⟩ : ∃ x, l[i] = x := ⟨_, rfl⟩
        simp only [hx] at c0 c1 c2 c3' c4 c5 c6 c7 hz1 hz2 hz4
        have HX := Lib.hid hx; clear hx hz3
        unfold maxLen at hz1 hz2 hz4
        have HB := Lib.hid (hb.alloc hb.size (.cells #[.int .u64 x.kind, .string x.path, .string x.goal, .int .i64 x.node.kind, .int .i64 x.node.mode, .int .u32 x.node.time, .string x.node.data, .int .i64 x.n] 60)); clear hb
        by_cases s1 : x.path.size ≤ 100
        · have s1' : ¬ (100 : Int) < x.path.size := by omega
          by_cases s2 : x.goal.size ≤ 100
          · have s2' : ¬ (100 : Int) < x.goal.size := by omega
            by_cases s3 : x.node.data.size ≤ 500
            · have s3' : ¬ (500 : Int) < x.node.data.size := by omega
              go_wp2_with fail
              go_roundw
              case rel => exact ⟨i + 1, by omega, by go_num, fun k hk hki => by
                by_cases e : k = i
                · subst e; rw [HX.out]; exact ⟨s1, s2, s3⟩
                · exact HA.out k hk (by omega), HB.out⟩
              case measure => simp [intOf]; omega
            · have s3' : (500 : Int) < x.node.data.size := by omega
              go_wp2_with fail
              go_ret
              exact ⟨false, rfl, fun h => absurd h (by decide), HB.out⟩
          · have s2' : (100 : Int) < x.goal.size := by omega
            go_wp2_with fail
            go_ret
            exact ⟨false, rfl, fun h => absurd h (by decide), HB.out⟩
        · have s1' : (100 : Int) < x.path.size := by omega
          go_wp2_with fail
          go_ret
          exact ⟨false, rfl, fun h => absurd h (by decide), HB.out⟩
      · obtain rfl : i = n := by omega
        have HB := Lib.hid hb; clear hb
        go_wp2_with fail
        go_ret
        exact ⟨true, rfl, fun _ => ⟨by rw [HL.out]; exact h30, fun e he => by
          obtain ⟨k, hk, rfl⟩ := List.mem_iff_getElem.1 he
          exact HA.out k hk (by have := HL.out; omega)⟩, HB.out⟩
  · have h31 : (25 : Int) < n := by omega
    go_enter Tryz.func31, Tryz.ntmps31
    go_wp2_with fail
    go_ret
    exact ⟨false, rfl, fun h => absurd h (by decide), Below.refl _ _⟩
set_option maxRecDepth 100000 in
set_option maxHeartbeats 4000000 in
theorem grafts_any (w : World) (s : St18) (hs : St18In s) :
    Calls Tryz.prog 38 #[.agg #[.int .u64 s.kind, .string s.path, .string s.goal, .int .i64 s.node.kind, .int .i64 s.node.mode, .int .u32 s.node.time, .string s.node.data, .int .i64 s.n]] w fun e w' => ∃ A j c, e = .returned (.slice A j c) ∧ SlV w' 5 eCSN (.slice A j c) (graftsL s) ∧ Below w.heap.size w w' := by
  obtain ⟨kd, p, q, ⟨nk, nm, nt, nd⟩, n⟩ := s
  obtain ⟨_, _, _, _, n0, n1⟩ := hs
  simp only at n0 n1 ⊢
  have hb1 := (Below.refl w.heap.size w).alloc (Nat.le_refl _) (.cells #[.int .u64 kd, .string p, .string q, .int .i64 nk, .int .i64 nm, .int .u32 nt, .string nd, .int .i64 n] 60)
  have hB1 := Blk.new w 60 #[.int .u64 kd, .string p, .string q, .int .i64 nk, .int .i64 nm, .int .u32 nt, .string nd, .int .i64 n]
  by_cases hn : n < 0
  · have HB := Lib.hid hb1; clear hb1 hB1
    have HG := Lib.hid (show graftsL ⟨kd, p, q, ⟨nk, nm, nt, nd⟩, n⟩ = [] from by unfold graftsL; rw [if_pos hn])
    go_enter Tryz.func38, Tryz.ntmps38
    go_wp2_with fail
    go_ret
    rw [HG.out]
    exact ⟨none, 0, 0, rfl, ⟨none, 0, rfl, Nat.le_refl _, by simp [maxLen], SlOf.nil _ _ _ _⟩, HB.out⟩
  · have hb2 := hb1.alloc (by simp) (.cells #[.string p, .int .i64 nk, .int .i64 nm, .int .u32 nt, .string nd, .string q, .int .i64 nk, .int .i64 nm, .int .u32 nt, .string nd] 32)
    have hB2 := Blk.new (w.alloc (.cells #[.int .u64 kd, .string p, .string q, .int .i64 nk, .int .i64 nm, .int .u32 nt, .string nd, .int .i64 n] 60)) 32 #[.string p, .int .i64 nk, .int .i64 nm, .int .u32 nt, .string nd, .string q, .int .i64 nk, .int .i64 nm, .int .u32 nt, .string nd]
    have hsl := slof_blk (E := eCSN) (l := [((p, ⟨nk, nm, nt, nd⟩) : NE), (q, ⟨nk, nm, nt, nd⟩)]) hB2 (by simp [eCSN]) eCSN_len
    have HB := Lib.hid (And.intro hb2 hsl); clear hb1 hB1 hb2 hB2 hsl
    obtain ⟨m, hm, hm2⟩ : ∃ m : Nat, n % 2 = m ∧ m < 2 := ⟨(n % 2).toNat, by omega, by omega⟩
    have hw : IntKind.i64.wrap (1 + (m : Int)) = 1 + (m : Int) := IntWalk.i64_in _ (by omega)
    have hmt : Int.tmod n 2 = m := by rw [Int.tmod_eq_emod_of_nonneg (by omega)]; exact hm
    have HG := Lib.hid (show graftsL ⟨kd, p, q, ⟨nk, nm, nt, nd⟩, n⟩ = [((p, ⟨nk, nm, nt, nd⟩) : NE), (q, ⟨nk, nm, nt, nd⟩)].take (1 + m) from by
      unfold graftsL
      rw [if_neg hn]
      by_cases h0 : n % 2 = 0
      · rw [if_pos h0, show m = 0 by omega]; rfl
      · rw [if_neg h0, show m = 1 by omega]; rfl)
    clear hm
    go_enter Tryz.func38, Tryz.ntmps38
    go_wp2_with fail
    go_ret
    rw [HG.out]
    refine ⟨_, 1 + m, 2, by first | rfl | (congr 2; omega), ⟨_, 2, ?_, by simp; omega, by simp [maxLen], HB.out.2.take (1 + m)⟩, HB.out.1⟩
    first | (simp; done) | (simp; omega)
end Go.Proofs.YtcpmhjealiajpaaGreatDoor
/- Arguments that are rows of steps of layer 18, opened. -/
set_option linter.unusedVariables false
namespace Go.Proofs.YtcpmhjealiajpaaGreatDoor
open Go Go.ChangeShapes Go.WideShapes Go.ChangeAt Go.RowKit
open Sw
set_option maxRecDepth 100000 in
theorem dec_st18 {H : Type} {enc : TypeId × Value → H} {w : World} (fuel : Nat) (cs : List Value) (x : DataW H × List MemPlace) (h : DataW.trod enc Tryz.prog w 0 (fun _ => true) true fuel 60 cs = some x) :
    ∃ s : St18, cs = st18C s ∧ St18In s := by
  obtain ⟨ys, n, _, _, hl, hyl, hf⟩ := DataW.trod_struct Tryz.underlying60 h
  have hl8 : cs.length = 8 := hl.trans (by kernel_rfl)
  have hy5 : ys.length = 5 := hyl.trans rfl
  match cs, hl8, ys, hy5 with
  | [c0, c1, c2, c3, c4, c5, c6, c7], _, [y0, y1, y2, y3, y4], _ =>
    have h0 := hf 0 _ rfl
    have h1 := hf 1 _ rfl
    have h2 := hf 2 _ rfl
    have h3 := hf 3 _ rfl
    have h4 := hf 4 _ rfl
    replace h0 : DataW.trod enc Tryz.prog w 0 (fun _ => true) true n 23 ((([c0, c1, c2, c3, c4, c5, c6, c7] : List Value).drop 0).take (Tryz.prog.cellsOf 23)) = some y0 := h0
    replace h1 : DataW.trod enc Tryz.prog w 0 (fun _ => true) true n 9 ((([c0, c1, c2, c3, c4, c5, c6, c7] : List Value).drop 1).take (Tryz.prog.cellsOf 9)) = some y1 := h1
    replace h2 : DataW.trod enc Tryz.prog w 0 (fun _ => true) true n 9 ((([c0, c1, c2, c3, c4, c5, c6, c7] : List Value).drop 2).take (Tryz.prog.cellsOf 9)) = some y2 := h2
    replace h3 : DataW.trod enc Tryz.prog w 0 (fun _ => true) true n 30 ((([c0, c1, c2, c3, c4, c5, c6, c7] : List Value).drop 3).take (Tryz.prog.cellsOf 30)) = some y3 := h3
    replace h4 : DataW.trod enc Tryz.prog w 0 (fun _ => true) true n 3 ((([c0, c1, c2, c3, c4, c5, c6, c7] : List Value).drop 7).take (Tryz.prog.cellsOf 3)) = some y4 := h4
    rw [show Tryz.prog.cellsOf 23 = 1 by kernel_rfl] at h0
    rw [show Tryz.prog.cellsOf 9 = 1 by kernel_rfl] at h1 h2
    rw [show Tryz.prog.cellsOf 30 = 4 by kernel_rfl] at h3
    rw [show Tryz.prog.cellsOf 3 = 1 by kernel_rfl] at h4
    simp only [List.drop_zero, List.drop_succ_cons, List.take_succ_cons, List.take_zero] at h0 h1 h2 h3 h4
    obtain ⟨k, ek, _, wk⟩ := DataW.trod_int Tryz.underlying23 h0
    obtain ⟨p, ep, _, zp⟩ := DataW.trod_string Tryz.underlying9 h1
    obtain ⟨q, eq, _, zq⟩ := DataW.trod_string Tryz.underlying9 h2
    obtain ⟨m, hm, hin⟩ := dec_node _ _ _ h3
    obtain ⟨j, ej, _, wj⟩ := DataW.trod_int Tryz.underlying3 h4
    simp at ek ep eq hm ej
    obtain ⟨rfl, rfl, rfl, rfl⟩ := hm
    subst ek ep eq ej
    obtain ⟨k0, k1⟩ := bounds_u64 wk
    obtain ⟨j0, j1⟩ := bounds_i64 wj
    exact ⟨⟨k, p, q, m, j⟩, rfl, ⟨k0, by show k < 18446744073709551616; omega⟩, zp, zq, hin, by show -9223372036854775808 ≤ j; omega, by show j ≤ 9223372036854775807; omega⟩
end Go.Proofs.YtcpmhjealiajpaaGreatDoor
