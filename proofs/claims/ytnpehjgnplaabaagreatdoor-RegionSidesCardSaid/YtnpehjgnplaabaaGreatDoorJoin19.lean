/- Several texts, joined for the limit of sixty files; each one opens with its own comment. -/
import Derived.Test.YtnpehjgnplaabaaGreatDoorJoin18
/- Several texts, joined for the limit of sixty files; each one opens with its own comment. -/
/- slices.IndexFunc and slices.DeleteFunc of a row of api.Item that the call owns; the predicate is (*swingle/tree.Tree).Under$1. -/
set_option linter.unusedVariables false
set_option linter.unusedSimpArgs false
namespace Go.Proofs.YtnpehjgnplaabaaGreatDoor
open Go Go.RowKit
open Sw
def IdxPostIT {α : Type} (p : α → Bool) (l : List α) (w : World) (e : Ending) (w' : World) : Prop :=
  ((∃ i : Nat, ∃ h : i < l.length, (∀ m (h : m < l.length), m < i → p l[m] = false) ∧ p l[i] = true ∧ e = .returned (.int .i64 i)) ∨ ((∀ x ∈ l, p x = false) ∧ e = .returned (.int .i64 (-1)))) ∧ Below w.heap.size w w'
set_option maxRecDepth 100000 in
set_option maxHeartbeats 4000000 in
theorem slIndexFuncIT_any (p : ByteArray × Nd → Bool) (r0 : Option Nat) (C : World → Prop) (hC : ∀ W W', C W → W.grownBy W' r0 → C W') (w : World) (A : Option Addr) (n c g : Nat) (l : List (ByteArray × Nd)) (hl : l.length = n) (hn : n ≤ 1000000) (hsl : SlOf w 5 eCIT A l) (h0 : C w)
    (hcall : ∀ W x, x ∈ l → C W → Calls Tryz.prog 100 #[.agg (eCIT x).toArray, .pointer (some ⟨g, 0, none⟩)] W fun e w' => e = .returned (.bool (p x)) ∧ Below W.heap.size W w') :
    Calls Tryz.prog 140 #[.slice A n c, .func (.func 100) #[] #[.pointer (some ⟨g, 0, none⟩)]] w (IdxPostIT p l w) := by
  have HS := Lib.hid hsl; clear hsl
  have HL := Lib.hid hl; clear hl
  have HC := Lib.hid hC; clear hC
  have HCL := Lib.hid hcall; clear hcall
  have H0 := Lib.hid h0; clear h0
  go_enter Tryz.func140, Tryz.ntmps140
  go_wp2_with fail
  go_loopw [8] (fun iv wr => ∃ i : Nat, i ≤ n ∧ iv = .int .i64 i ∧ (∀ m (h : m < l.length), m < i → p l[m] = false) ∧ Below w.heap.size w wr) (fun iv _ => n - (intOf iv).toNat)
  case atStart => exact ⟨0, Nat.zero_le _, rfl, fun m h h' => absurd h' (Nat.not_lt_zero _), Below.refl _ _⟩
  case round =>
    obtain ⟨i, hin, rfl, hno, hbr⟩ := hrel
    have HNO := Lib.hid hno; clear hno
    by_cases hlt : i < n
    · have hiL : i < l.length := by have := HL.out; omega
      obtain ⟨b, off, rfl, hbb, _⟩ := (HS.out.below hbr (Nat.le_refl _)) (by omega)
      have HR := Lib.hid ((HS.out.below hbr (Nat.le_refl _)).range eCIT_len i hiL)
      have HF := Lib.hid (HCL.out wr l[i] (List.getElem_mem hiL) (HC.out w wr H0.out (grown_below hbr)))
      have HYES := Lib.hid (fun (hp : p l[i] = true) w' (hb : Below w.heap.size w w') => (⟨.inl ⟨i, hiL, HNO.out, hp, rfl⟩, hb⟩ : IdxPostIT p l w (.returned (.int .i64 i)) w'))
      have HNO2 := Lib.hid (fun (hp : p l[i] = false) m (hm : m < l.length) (hmi : m < i + 1) => (by
        by_cases e : m = i
        · subst e; exact hp
        · exact HNO.out m hm (by omega) : p l[m] = false))
      have HX := Lib.hid (eCIT_len l[i])
      generalize p l[i] = pv at *
      generalize eCIT l[i] = ev at *
      have q2 : (i : Int) < n := by omega
      cases pv with
      | true =>
        have hyes := HYES.out rfl
        have HYES2 := Lib.hid hyes; clear hyes HYES HNO2
        go_wp2_with (refine wpList_load_mid rfl 59 (.tmp 14) rfl b (off + i * 5) rfl ev _ HR.out Tryz.underlying59 rfl (by rw [HX.out]; kernel_rfl) ?_)
        refine HF.out.mono ?_
        rintro e w2 ⟨rfl, hb2⟩
        have HP := Lib.hid (HYES2.out w2 (hbr.trans (hb2.mono hbr.size)))
        clear HR HF HNO
        go_wp2_with fail
        go_ret
        exact HP.out
      | false =>
        have hno2 := HNO2.out rfl
        have HNO3 := Lib.hid hno2; clear hno2 HYES HNO2
        go_wp2_with (refine wpList_load_mid rfl 59 (.tmp 14) rfl b (off + i * 5) rfl ev _ HR.out Tryz.underlying59 rfl (by rw [HX.out]; kernel_rfl) ?_)
        refine HF.out.mono ?_
        rintro e w2 ⟨rfl, hb2⟩
        have HP := Lib.hid (And.intro HNO3.out (hbr.trans (hb2.mono hbr.size)))
        clear HR HF HNO
        go_wp2_with fail
        go_roundw
        case rel => exact ⟨i + 1, by omega, by go_num, HP.out.1, HP.out.2⟩
        case measure => simp [intOf]; omega
    · obtain rfl : i = n := by omega
      have hpst : IdxPostIT p l w (.returned (.int .i64 (-1))) wr := ⟨.inr ⟨fun x hx => by
        obtain ⟨m, hm, rfl⟩ := List.mem_iff_getElem.1 hx
        exact HNO.out m hm (by have := HL.out; omega), rfl⟩, hbr⟩
      have HP := Lib.hid hpst; clear hpst
      go_wp2_with fail
      go_ret
      exact HP.out
/-- behind the call: the row of those that stay -/
def DelFPostIT (base : Nat) (l : List (ByteArray × Nd)) (row : Option Nat) (w : World) (e : Ending) (w' : World) : Prop :=
  ∃ v, e = .returned v ∧ w'.ownsRow base 59 5 v l.length (l.flatMap eCIT) ∧ w.grownBy w' row ∧ v.ownBlock = row
set_option maxRecDepth 100000 in
set_option maxHeartbeats 8000000 in
theorem slDelFuncIT_any (p : ByteArray × Nd → Bool) (C : World → Prop) (w : World) (base : Nat) (v : Value) (l : List (ByteArray × Nd)) (hown : w.ownsRow base 59 5 v l.length (l.flatMap eCIT)) (hC : ∀ W W', C W → W.grownBy W' v.ownBlock → C W') (gp : Nat) (hn : l.length ≤ 1000000) (h0 : C w)
    (hcall : ∀ W x, x ∈ l → C W → Calls Tryz.prog 100 #[.agg (eCIT x).toArray, .pointer (some ⟨gp, 0, none⟩)] W fun e w' => e = .returned (.bool (p x)) ∧ Below W.heap.size W w') :
    Calls Tryz.prog 99 #[v, .func (.func 100) #[] #[.pointer (some ⟨gp, 0, none⟩)]] w (DelFPostIT base (l.filter fun x => !p x) v.ownBlock w) := by
  have hslv : SlV w 5 eCIT v l := SlV.of_own hown eCIT_len (by decide)
  obtain ⟨A, c, rfl, hc1, hc2, hsl⟩ := hslv
  have HIX := Lib.hid (slIndexFuncIT_any p _ C hC w A l.length c gp l rfl hn hsl h0 hcall)
  have HO := Lib.hid hown; clear hown
  have HC := Lib.hid hC; clear hC
  have HCL := Lib.hid hcall; clear hcall
  have H0 := Lib.hid h0; clear h0
  clear hsl
  go_enter Tryz.func99, Tryz.ntmps99
  go_wp2_with fail
  refine HIX.out.mono ?_
  rintro e w1 ⟨⟨i0, hi0, hno, hyes, rfl⟩ | ⟨hnone, rfl⟩, hb1⟩
  · have hne : ((i0 : Int) == -1) = false := by rw [beq_eq_false_iff_ne]; omega
    obtain ⟨g, cap0, cur0, hA, hbg0, hB0, hnc0, hcm0, hcs0, htk0⟩ := own_form HO.out (by omega)
    obtain ⟨rfl, rfl⟩ : A = some ⟨g, 0, none⟩ ∧ c = cap0 := by injection hA with e1 e2 e3; exact ⟨e1, e3⟩
    have HFI := Lib.hid (show (l.take i0).filter (fun x => !p x) = l.take i0 ∧ (l.take (i0 + 1)).filter (fun x => !p x) = l.take i0 from by
      have h1 : (l.take i0).filter (fun x => !p x) = l.take i0 := by
        rw [List.filter_eq_self]
        intro x hx
        obtain ⟨m, hm, rfl⟩ := List.mem_iff_getElem.1 hx
        rw [List.length_take] at hm
        rw [List.getElem_take, hno m (by omega) (by omega)]; rfl
      refine ⟨h1, ?_⟩
      rw [List.take_succ_eq_append_getElem hi0, List.filter_append, h1]
      simp [hyes])
    have HB1 := Lib.hid (And.intro hb1 (own_kept HO.out hb1)); clear hb1 hno hyes hB0 htk0 hcs0
    have hi30 : (i0 : Int) + 1 ≤ 1000001 := by omega
    obtain ⟨n, hnl⟩ : ∃ n, l.length = n := ⟨_, rfl⟩
    rw [hnl] at HO HB1 hi0 hn hc1 hnc0
    unfold maxLen at hc2 hcm0
    rw [hnl]
    have HNL := Lib.hid hnl; clear hnl hA hcm0
    go_wp2_with fail
    go_loopw [5, 6] (fun iv jv wr => ∃ i j : Nat, i < j ∧ j ≤ n ∧ iv = .int .i64 i ∧ jv = .int .i64 j ∧ ∃ cs : List (ByteArray × Nd), cs.length = n ∧ wr.ownsRow base 59 5 (.slice (some ⟨g, 0, none⟩) n c) n (cs.flatMap eCIT) ∧ cs.take i = (l.take j).filter (fun x => !p x) ∧ cs.drop j = l.drop j ∧ w.grownBy wr (some g)) (fun _ jv _ => n - (intOf jv).toNat)
    case atStart => exact ⟨i0, i0 + 1, by omega, by omega, rfl, by go_num, l, HNL.out, HB1.out.2, HFI.out.2.symm, rfl, grown_below HB1.out.1⟩
    case round =>
      obtain ⟨i, j, hij, hjn, rfl, rfl, cs, hcl, ho, htk, hdr, hg⟩ := hrel
      have HR := Lib.hid (And.intro ho (And.intro htk (And.intro hdr (And.intro hg hcl)))); clear ho htk hdr hg hcl
      by_cases hlt : j < n
      · obtain ⟨gp', cap, cur, hA, hbg, hB, hnc, hcm, hcs, htk⟩ := own_form HR.out.1 (by omega)
        obtain ⟨rfl, rfl⟩ : g = gp' ∧ c = cap := by injection hA with e1 e2 e3; exact ⟨congrArg Addr.block (Option.some.inj e1), e3⟩
        have hjl : j < cs.length := by rw [HR.out.2.2.2.2]; exact hlt
        have hjL : j < l.length := by rw [HNL.out]; exact hlt
        have hxe : cs[j] = l[j] := by
          have h1 : (cs.drop j)[0]? = (l.drop j)[0]? := by rw [HR.out.2.2.1]
          rw [List.getElem?_drop, List.getElem?_drop, Nat.add_zero, List.getElem?_eq_getElem hjl, List.getElem?_eq_getElem hjL] at h1
          exact Option.some.inj h1
        have hcj := fun (q : Nat) (hq : q < 5) => (by
          have h1 := flat_get eCIT_len cs j hjl q hq
          have h2 : j * 5 + q < n * 5 := by have : (j + 1) * 5 ≤ n * 5 := Nat.mul_le_mul_right _ hlt; omega
          rw [hB.cell, ← Array.getElem?_toList, ← h1, ← htk, List.getElem?_take, if_pos h2] : wr.cell? ⟨g, j * 5 + q, none⟩ = (eCIT cs[j])[q]?)
        simp only [hxe] at hcj
        have hmem : l[j] ∈ l := List.getElem_mem hjL
        obtain ⟨x, hx⟩ : ∃ x, l[j] = x := ⟨_, rfl⟩
        rw [hx] at hmem
        simp only [hx] at hcj
        have HX := Lib.hid hx; clear hx hxe
        have hcw : C wr := HC.out w wr H0.out HR.out.2.2.2.1
        have hcw1 : C (wr.alloc (.cells (eCIT x).toArray 59)) := HC.out _ _ hcw (grown_alloc (grown_refl wr _) _)
        have HF := Lib.hid (HCL.out _ x hmem hcw1)
        have hbx := Blk.new wr 59 (eCIT x).toArray
        have hba := (Below.refl wr.heap.size wr).alloc (Nat.le_refl _) (.cells (eCIT x).toArray 59)
        have HBX := Lib.hid (And.intro hbx hba); clear hbx hba hcw hcw1 hmem
        have b0 : wr.cell? ⟨g, j * 5, none⟩ = _ := hcj 0 (by omega)
        have b1 : wr.cell? ⟨g, j * 5 + 1, none⟩ = _ := hcj 1 (by omega)
        have b2 : wr.cell? ⟨g, j * 5 + 2, none⟩ = _ := hcj 2 (by omega)
        have b3 : wr.cell? ⟨g, j * 5 + 3, none⟩ = _ := hcj 3 (by omega)
        have b4 : wr.cell? ⟨g, j * 5 + 4, none⟩ = _ := hcj 4 (by omega)
        simp only [eCIT, List.getElem?_cons_succ, List.getElem?_cons_zero] at b0 b1 b2 b3 b4
        have hq3 : (j : Int) < n := by omega
        have HB := Lib.hid hB
        have HTK := Lib.hid htk; clear hB htk hcs hcj hA hcm
        have HPX := Lib.hid (fun (hp : p x = true) => (by rw [List.take_succ_eq_append_getElem hjL, HX.out, List.filter_append, HR.out.2.1]; simp [hp] : cs.take i = (l.take (j + 1)).filter (fun x => !p x)))
        have HPY := Lib.hid (fun (hp : p x = false) => (by rw [List.take_succ_eq_append_getElem hjL, HX.out, List.filter_append, ← HR.out.2.1]; simp [hp] : (l.take (j + 1)).filter (fun x => !p x) = cs.take i ++ [x]))
        obtain ⟨pv, hpv⟩ : ∃ pv, p x = pv := ⟨_, rfl⟩
        rw [hpv] at HPX HPY HF
        simp only [eCIT] at HF
        cases pv with
        | true =>
          clear hpv
          go_wp2_with fail
          refine HF.out.mono ?_
          rintro e w2 ⟨rfl, hb2⟩
          have hg2 : w.grownBy w2 (some g) := grown_sub (grown_alloc HR.out.2.2.2.1 _) (grown_below (row := none) hb2) (fun k hk => by cases hk)
          have HZ := Lib.hid (And.intro hg2 (own_kept (own_kept HR.out.1 HBX.out.2) hb2)); clear hg2 hb2
          go_wp2_with fail
          go_roundw
          case rel => exact ⟨i, j + 1, by omega, by omega, rfl, by go_num, cs, HR.out.2.2.2.2, HZ.out.2, HPX.out (by trivial), by rw [← List.drop_drop, ← List.drop_drop, HR.out.2.2.1], HZ.out.1⟩
          case measure => simp [intOf]; omega
        | false =>
          clear hpv
          go_wp2_with fail
          refine HF.out.mono ?_
          rintro e w2 ⟨rfl, hb2⟩
          have hbx2 := (HBX.out.1).below hb2 HBX.out.1.lt
          have hg2 : w.grownBy w2 (some g) := grown_sub (grown_alloc HR.out.2.2.2.1 _) (grown_below (row := none) hb2) (fun k hk => by cases hk)
          have ho2 := own_kept (own_kept HR.out.1 HBX.out.2) hb2
          have hB := (HB.out.below HBX.out.2 HB.out.lt).below hb2 (Nat.lt_of_lt_of_le HB.out.lt HBX.out.2.size)
          have x0 : w2.cell? ⟨wr.heap.size, 0, none⟩ = _ := hbx2.cell 0
          have x1 : w2.cell? ⟨wr.heap.size, 1, none⟩ = _ := hbx2.cell 1
          have x2 : w2.cell? ⟨wr.heap.size, 2, none⟩ = _ := hbx2.cell 2
          have x3 : w2.cell? ⟨wr.heap.size, 3, none⟩ = _ := hbx2.cell 3
          have x4 : w2.cell? ⟨wr.heap.size, 4, none⟩ = _ := hbx2.cell 4
          simp [eCIT] at x0 x1 x2 x3 x4
          have fa0 := hB.frozen (i * 5)
          have fa1 := hB.frozen (i * 5 + 1)
          have fa2 := hB.frozen (i * 5 + 2)
          have fa3 := hB.frozen (i * 5 + 3)
          have fa4 := hB.frozen (i * 5 + 4)
          have hil : i < cs.length := by rw [HR.out.2.2.2.2]; omega
          have hci := fun (q : Nat) (hq : q < 5) => (by
            have h1 := flat_get eCIT_len cs i hil q hq
            have h2 : i * 5 + q < n * 5 := by have : (i + 1) * 5 ≤ n * 5 := Nat.mul_le_mul_right _ (by omega); omega
            rw [hB.cell, ← Array.getElem?_toList, ← h1, ← HTK.out, List.getElem?_take, if_pos h2] : w2.cell? ⟨g, i * 5 + q, none⟩ = (eCIT cs[i])[q]?)
          obtain ⟨y, hy⟩ : ∃ y, cs[i] = y := ⟨_, rfl⟩
          simp only [hy] at hci
          have a0 : w2.cell? ⟨g, i * 5, none⟩ = _ := hci 0 (by omega)
          have a1 : w2.cell? ⟨g, i * 5 + 1, none⟩ = _ := hci 1 (by omega)
          have a2 : w2.cell? ⟨g, i * 5 + 2, none⟩ = _ := hci 2 (by omega)
          have a3 : w2.cell? ⟨g, i * 5 + 3, none⟩ = _ := hci 3 (by omega)
          have a4 : w2.cell? ⟨g, i * 5 + 4, none⟩ = _ := hci 4 (by omega)
          simp only [eCIT, List.getElem?_cons_succ, List.getElem?_cons_zero] at a0 a1 a2 a3 a4
          clear hci hy
          have HST := Lib.hid (by
            have h1 := own_setCells (eCIT x) (i * 5) w2 _ ho2 (by rw [eCIT_len]; omega)
            have f1 := flat_put eCIT_len cs i hil x 0 (eCIT x) (by rw [eCIT_len]; omega) (by simp [eCIT_len])
            simp only [Nat.add_zero] at f1
            rw [f1] at h1
            exact And.intro h1 (grown_setCells (eCIT x) (i * 5) w2 hg2))
          have hq4 : (i : Int) < n := by omega
          have hq5 : i < n := by omega
          clear hB hg2 ho2 hb2 hbx2
          go_wp2_with fail
          go_roundw
          case rel => exact ⟨i + 1, j + 1, by omega, by omega, by go_num, by go_num, cs.set i x, by rw [List.length_set]; exact HR.out.2.2.2.2, HST.out.1, by rw [HPY.out (by trivial), List.take_succ_eq_append_getElem (by rw [List.length_set]; exact hil), List.getElem_set_self, List.take_set_of_le (Nat.le_refl _)], by rw [List.drop_set_of_lt (by omega), ← List.drop_drop, ← List.drop_drop, HR.out.2.2.1], HST.out.2⟩
          case measure => simp [intOf]; omega
      · obtain rfl : j = n := by omega
        obtain ⟨gp', cap, cur, hA, hbg, hB, hnc, hcm, hcs, htk⟩ := own_form HR.out.1 (by omega)
        obtain ⟨rfl, rfl⟩ : g = gp' ∧ c = cap := by injection hA with e1 e2 e3; exact ⟨congrArg Addr.block (Option.some.inj e1), e3⟩
        obtain ⟨r2, hcl, hr2s, hr2t⟩ := run_clear_rows (P := Tryz.prog) wr 25 59 (.agg #[.string ⟨#[]⟩, .int .i64 0, .int .i64 0, .int .u32 0, .string ⟨#[]⟩]) 5 Tryz.underlying25 Tryz.zeroValue59 rfl (by decide) g (i * 5) (j - i) (c - i) (by omega) cur 59 hB (by rw [hcs, Nat.sub_mul]; have : i * 5 ≤ j * 5 := Nat.mul_le_mul_right _ (by omega); have : j * 5 ≤ c * 5 := Nat.mul_le_mul_right _ (by omega); omega)
        have hfl : l.filter (fun x => !p x) = cs.take i := by rw [HR.out.2.1, List.take_of_length_le (by rw [HNL.out]; omega)]
        have hil : i ≤ cs.length := by rw [HR.out.2.2.2.2]; omega
        have hx2 : r2.toList.take (i * 5) = (l.filter fun x => !p x).flatMap eCIT := by
          rw [hr2t, hfl, flat_take eCIT_len, ← htk, List.take_take, Nat.min_eq_left (Nat.mul_le_mul_right _ (by omega))]
        have hli : (l.filter fun x => !p x).length = i := by rw [hfl, List.length_take]; omega
        have hfin : DelFPostIT base (l.filter fun x => !p x) (some g) w (.returned (.slice (some ⟨g, 0, none⟩) i c)) (wr.setRow g r2) :=
          ⟨_, rfl, by rw [hli]; exact own_mk hbg (hB.setRow _) (by omega) hc2 (by rw [hr2s, hcs]) hx2, grown_trans HR.out.2.2.2.1 (grown_setRow _ _ _), rfl⟩
        have HF := Lib.hid hfin; clear hfin hx2 hli hfl htk hcs hB hA hr2t hr2s hil hcm
        have h1 : (i : Int) ≤ j := by omega
        have h2 : i ≤ j := by omega
        have h3 : ¬ c = i := by omega
        have h4 : (i : Int) ≤ c := by omega
        have h5 : i ≤ c := by omega
        go_wp2_with (at_builtin; refine wpList_clear_rows _ rfl _ 25 rfl _ rfl (hcl _) ?_)
        go_ret
        exact HF.out
  · have hfl : l.filter (fun x => !p x) = l := by
      rw [List.filter_eq_self]
      intro x hx
      rw [hnone x hx]; rfl
    have hpst : DelFPostIT base (l.filter fun x => !p x) (Value.slice A l.length c).ownBlock w (.returned (.slice A l.length c)) w1 := ⟨_, rfl, by rw [hfl]; exact own_kept HO.out hb1, grown_below hb1, rfl⟩
    have HF := Lib.hid hpst; clear hpst
    clear hfl hnone hb1
    go_wp2_with fail
    go_ret
    exact HF.out
end Go.Proofs.YtnpehjgnplaabaaGreatDoor
/- tree.Under. -/
set_option linter.unusedVariables false
set_option linter.unusedSimpArgs false
namespace Go.Proofs.YtnpehjgnplaabaaGreatDoor
open Go Go.RowKit
open Sw
/-- what stands at a path and under it -/
def undT (p : ByteArray) (xs : List NE) : List NE := xs.filter fun x => !awayT p x
set_option maxRecDepth 100000 in
set_option maxHeartbeats 4000000 in
theorem treeUnder_any (w : World) (bt bm : Nat) (xs : List NE) (p : ByteArray) (h : TreeAt w bt bm xs) (hn : xs.length ≤ 1000) (hp : p.size ≤ 90000) :
    Calls Tryz.prog 62 #[.pointer (some ⟨bt, 0, none⟩), .string p] w fun e w' => ∃ r, e = .returned r ∧ OwnIt w' w.heap.size r (undT p xs) ∧ Below w.heap.size w w' := by
  have b0 := Blk.new w 9 #[.string p]
  have hB : Below w.heap.size w (w.alloc (.cells #[.string p] 9)) := (Below.refl _ w).alloc (Nat.le_refl _) _
  have hok : ∀ e ∈ xs, e.1.size ≤ 90000 := fun e he => h.map.ok e he
  have hT := h.below hB
  have HI := Lib.hid (treeItems_any _ bt bm xs hT hn)
  have H0 := Lib.hid (And.intro b0 hB); clear b0 hB hT h
  go_enter Tryz.func62, Tryz.ntmps62
  go_wp2_with fail
  refine HI.out.mono ?_
  rintro e w2 ⟨r, rfl, ho, hb2⟩
  have hB2 := H0.out.1.below hb2 H0.out.1.lt
  have hbw := H0.out.2.trans (hb2.mono H0.out.2.size)
  have hge : ∀ k, r.ownBlock = some k → w.heap.size + 1 ≤ k := fun k hk => by have := (ho.lt k hk).1; simp at this; omega
  have ho' : OwnIt w2 w.heap.size r xs := own_wide ho (by simp)
  have HDF := Lib.hid (slDelFuncIT_any (awayT p) (fun W => Blk W w.heap.size 9 #[.string p]) w2 w.heap.size r xs ho' (fun W W' hC hg => hC.grown hg (fun e => by have := hge _ e.symm; omega)) w.heap.size (by omega) hB2
    (fun W x hx hC => treeUnder1_any W w.heap.size p x hC hp (hok x hx)))
  have HF := Lib.hid (And.intro hbw hge); clear hb2 hB2 hbw hge ho ho' HI H0
  go_wp2_with fail
  refine HDF.out.mono ?_
  rintro e w3 ⟨v, rfl, hov, hg, _⟩
  have HZ := Lib.hid (And.intro hov (HF.out.1.grown hg HF.out.1.size (fun k hk => by have := HF.out.2 k hk; omega))); clear hov hg HF HDF
  go_wp2_with fail
  go_ret
  exact ⟨v, rfl, HZ.out.1, HZ.out.2⟩
end Go.Proofs.YtnpehjgnplaabaaGreatDoor
/- A tree's rows: what always holds of them, and what a path's clearing leaves; plain. -/
set_option linter.unusedVariables false
set_option linter.unusedSimpArgs false
namespace Sw
open Go
open Go.Proofs.YtnpehjgnplaabaaGreatDoor (partsS awayT undT)
/-- what holds of a tree's entries -/
structure TI (xs : List NE) : Prop where
  up : Up ordS xs
  paths : Paths xs
  nod : ∀ e ∈ xs, ¬ e.2.kind = 0 ∧ nodeR e.2 = 0
  par : ∀ e ∈ xs, ∀ u ∈ upsS e.1, ∃ d ∈ xs, d.1 = u ∧ d.2.kind = 2
theorem TI.nil : TI [] := ⟨List.Pairwise.nil, fun _ h => absurd h (by simp), fun _ h => absurd h (by simp), fun _ h => absurd h (by simp)⟩
theorem up_key {xs : List NE} (hu : Up ordS xs) {a b : NE} (ha : a ∈ xs) (hb : b ∈ xs) (h : a.1 = b.1) : a = b := by
  induction xs with
  | nil => cases ha
  | cons x xs ih =>
    have hself : ∀ y ∈ xs, ¬ y.1 = x.1 := fun y hy e => by
      have := hu.head y hy
      rw [e, ordS_refl] at this
      omega
    rcases List.mem_cons.1 ha with rfl | ha
    · rcases List.mem_cons.1 hb with rfl | hb
      · rfl
      · exact absurd h.symm (hself b hb)
    · rcases List.mem_cons.1 hb with hbx | hb
      · exact absurd (h.trans (by rw [hbx])) (hself _ ha)
      · exact ih hu.tail ha hb
theorem getT_in {xs : List NE} (hu : Up ordS xs) {e : NE} (h : e ∈ xs) : getT xs e.1 = e.2 := by
  unfold getT
  rw [get_find ordS_ord e.1 xs hu]
  cases hf : xs.find? (fun x => decide (ordS x.1 e.1 = 0)) with
  | none =>
    have := List.find?_eq_none.1 hf e h
    simp [ordS_refl] at this
  | some x =>
    have h0 : ordS x.1 e.1 = 0 := by have := List.find?_some hf; simpa using this
    rw [up_key hu (List.mem_of_find?_eq_some hf) h (ordS_zero h0)]
    rfl
theorem getT_out {xs : List NE} (hu : Up ordS xs) {p : ByteArray} (h : ∀ e ∈ xs, ¬ e.1 = p) : getT xs p = ndZ := by
  unfold getT
  rw [get_find ordS_ord p xs hu, List.find?_eq_none.2 (fun e he => by have := h e he; simp [ordS_ord.iff, this])]
  rfl
theorem getT_kind {xs : List NE} (hu : Up ordS xs) {p : ByteArray} (h : ¬ (getT xs p).kind = 0) : (p, getT xs p) ∈ xs := by
  rcases Classical.em (∃ e ∈ xs, e.1 = p) with ⟨e, he, rfl⟩ | hn
  · rw [getT_in hu he]; exact he
  · rw [getT_out hu (fun e he h => hn ⟨e, he, h⟩)] at h
    exact absurd rfl h
theorem put_iff {xs : List NE} (hu : Up ordS xs) (p : ByteArray) (n : Nd) (e : NE) : e ∈ putN ordS p n xs ↔ e = (p, n) ∨ (e ∈ xs ∧ ¬ e.1 = p) := by
  rw [put_filter ordS_ord p n xs hu]
  simp only [List.mem_append, List.mem_filter, List.mem_cons, decide_eq_true_eq]
  have h3 := ordS_three e.1 p
  constructor
  · rintro (⟨h, hk⟩ | rfl | ⟨h, hk⟩)
    · exact .inr ⟨h, fun e' => by rw [e', ordS_refl] at hk; omega⟩
    · exact .inl rfl
    · exact .inr ⟨h, fun e' => by rw [e', ordS_refl] at hk; omega⟩
  · rintro (rfl | ⟨h, hk⟩)
    · exact .inr (.inl rfl)
    · rcases h3 with h3 | h3 | h3
      · exact .inl ⟨h, by omega⟩
      · exact absurd (ordS_zero h3) hk
      · exact .inr (.inr ⟨h, by omega⟩)
/-- the ups of a path: its parent, and the parent's -/
theorem ups_parent {p u : ByteArray} (h : u ∈ upsS p) : ¬ parentS p = ⟨#[]⟩ ∧ parentS p ∈ upsS p ∧ (u = parentS p ∨ u ∈ upsS (parentS p)) := by
  rcases parent_last p with ⟨h0, _⟩ | ⟨hne, hl, hp⟩
  · rw [h0] at h; cases h
  · have hmem : parentS p ∈ upsS p := by rw [← hl]; exact List.getLast_mem hne
    refine ⟨hp, hmem, ?_⟩
    obtain ⟨k, hk1, hk2, hk3, hkr⟩ := ups_mem h
    obtain ⟨m, hm1, hm2, hm3, hmr⟩ := ups_mem hmem
    have hlen := upsS_len p
    have hm : partsS (parentS p) = (partsS p).take ((partsS p).length - 1) := by
      rw [← hl, List.getLast_eq_getElem]
      have hlt : (upsS p).length - 1 < (upsS p).length := by have := List.length_pos_iff.2 hne; omega
      have := ups_step p ((upsS p).length - 1) hlt
      rw [upsS_at p _ hlt]
      have hr : rightL p.data.toList = true := by
        cases hr : rightL p.data.toList with
        | true => rfl
        | false => rw [partsS_not hr] at hk2; simp at hk2
      rw [show (upsS p).length - 1 + 1 = (partsS p).length - 1 by have := List.length_pos_iff.2 hne; omega]
      rw [partsS_right hr] at hk2 ⊢
      have ht := right_take hr ((spS p).length - 1) (by omega)
      rw [partsS_right (by rw [data_mkB]; exact ht.1)]
      exact ht.2
    by_cases hkk : k = (partsS p).length - 1
    · left
      refine parts_inj (by rw [hk3, hm, hkk]) (by rw [hk3, List.length_take]; omega)
    · right
      refine ups_of (k := k) hk1 (by rw [hm, List.length_take]; omega) ?_
      rw [hk3, hm, List.take_take, Nat.min_eq_left (by omega)]
theorem ups_trans {u v p : ByteArray} (h1 : u ∈ upsS v) (h2 : v ∈ upsS p) : u ∈ upsS p := by
  obtain ⟨k, hk1, hk2, hk3, _⟩ := ups_mem h1
  obtain ⟨m, hm1, hm2, hm3, _⟩ := ups_mem h2
  rw [hm3, List.length_take] at hk2
  exact ups_of (k := k) hk1 (by omega) (by rw [hk3, hm3, List.take_take, Nat.min_eq_left (by omega)])
theorem ups_self {p : ByteArray} : ¬ p ∈ upsS p := fun h => by
  have := ups_order h
  rw [ordS_refl] at this
  omega
theorem away_iff (p : ByteArray) (e : NE) : awayT p e = true ↔ ¬ e.1 = p ∧ ¬ p ∈ upsS e.1 := by
  unfold Go.Proofs.YtnpehjgnplaabaaGreatDoor.awayT
  rw [Bool.and_eq_true, Bool.not_eq_true', Bool.not_eq_true', decide_eq_false_iff_not, ← inS_iff]
  simp
/-- nothing is under a path that holds says so of -/
theorem holds_not {xs : List NE} (hu : Up ordS xs) (hp : Paths xs) {p : ByteArray} (h : holdsT xs p = false) : ∀ e ∈ xs, ¬ p ∈ upsS e.1 := fun e he hq => by
  rw [holds_any xs p hu hp, List.any_eq_false] at h
  exact h e he ((inS_iff _ _).2 hq)
theorem holds_no {xs : List NE} (hu : Up ordS xs) (hp : Paths xs) {p : ByteArray} (h : ∀ e ∈ xs, ¬ p ∈ upsS e.1) : holdsT xs p = false := by
  rw [holds_any xs p hu hp, List.any_eq_false]
  exact fun e he hq => h e he ((inS_iff _ _).1 hq)
/-- what may's answer 0 says -/
theorem may_zero {xs : List NE} {p : ByteArray} {n : Nd} (h : mayT xs p n = 0) : rightL p.data.toList = true ∧ ¬ n.kind = 0 ∧ nodeR n = 0 ∧ parentT xs p = 0 ∧ (n.kind = 2 ∨ holdsT xs p = false) ∧ ((getT xs p).kind = 0 → xs.length < 500) := by
  unfold mayT at h
  cases hr : rightL p.data.toList with
  | false => rw [if_pos hr] at h; cases h
  | true =>
    rw [if_neg (by rw [hr]; simp)] at h
    by_cases h0 : n.kind = 0
    · rw [if_pos h0] at h; cases h
    · rw [if_neg h0] at h
      by_cases h1 : nodeR n = 0
      · rw [if_neg (by simpa using h1)] at h
        by_cases h2 : parentT xs p = 0
        · rw [if_neg (by simpa using h2)] at h
          by_cases h3 : ¬ n.kind = 2 ∧ holdsT xs p = true
          · rw [if_pos h3] at h; cases h
          · rw [if_neg h3] at h
            by_cases h4 : (getT xs p).kind = 0 ∧ 500 ≤ xs.length
            · rw [if_pos h4] at h; cases h
            · refine ⟨rfl, h0, h1, h2, ?_, fun hk => by have := fun hl => h4 ⟨hk, hl⟩; omega⟩
              rcases Classical.em (n.kind = 2) with hk | hk
              · exact .inl hk
              · right
                cases hh : holdsT xs p with
                | false => rfl
                | true => exact absurd ⟨hk, hh⟩ h3
        · rw [if_pos h2] at h; exact absurd h h2
      · rw [if_pos h1] at h; exact absurd h h1
theorem may_of {xs : List NE} {p : ByteArray} {n : Nd} (h1 : rightL p.data.toList = true) (h2 : ¬ n.kind = 0) (h3 : nodeR n = 0) (h4 : parentT xs p = 0) (h5 : n.kind = 2 ∨ holdsT xs p = false) (h6 : (getT xs p).kind = 0 → xs.length < 500) : mayT xs p n = 0 := by
  unfold mayT
  rw [if_neg (by rw [h1]; simp), if_neg h2, if_neg (by simpa using h3), if_neg (by simpa using h4), if_neg (by rcases h5 with h | h <;> simp [h]), if_neg (fun h => by have := h6 h.1; omega)]
theorem parentT_zero {xs : List NE} {p : ByteArray} (h : parentT xs p = 0) : parentS p = ⟨#[]⟩ ∨ (getT xs (parentS p)).kind = 2 := by
  unfold parentT at h
  by_cases h0 : parentS p = ⟨#[]⟩
  · exact .inl h0
  · rw [if_neg h0] at h
    by_cases h1 : (getT xs (parentS p)).kind = 0
    · rw [if_pos h1] at h; cases h
    · rw [if_neg h1] at h
      by_cases h2 : (getT xs (parentS p)).kind = 2
      · exact .inr h2
      · rw [if_neg h2] at h; cases h
theorem parentT_of {xs : List NE} {p : ByteArray} (h : parentS p = ⟨#[]⟩ ∨ (getT xs (parentS p)).kind = 2) : parentT xs p = 0 := by
  unfold parentT
  rcases h with h | h
  · rw [if_pos h]
  · by_cases h0 : parentS p = ⟨#[]⟩
    · rw [if_pos h0]
    · rw [if_neg h0, if_neg (by rw [h]; decide), if_pos h]
theorem TI.putN {xs : List NE} (h : TI xs) {p : ByteArray} {n : Nd} (hm : mayT xs p n = 0) : TI (putN ordS p n xs) := by
  obtain ⟨m1, m2, m3, m4, m5, _⟩ := may_zero hm
  refine ⟨put_up ordS_ord p n xs h.up, h.paths.put m1 n, fun e he => ?_, fun e he u hu => ?_⟩
  · rcases (put_iff h.up p n e).1 he with rfl | ⟨he, _⟩
    · exact ⟨m2, m3⟩
    · exact h.nod e he
  · rcases (put_iff h.up p n e).1 he with rfl | ⟨he, hep⟩
    · obtain ⟨hne, hmem, hor⟩ := ups_parent hu
      have hk : (getT xs (parentS p)).kind = 2 := (parentT_zero m4).resolve_left hne
      have hd := getT_kind h.up (p := parentS p) (by rw [hk]; decide)
      have hpp : ¬ parentS p = p := fun e => ups_self (p := p) (by rw [e] at hmem; exact hmem)
      rcases hor with rfl | hor
      · exact ⟨_, (put_iff h.up p n _).2 (.inr ⟨hd, hpp⟩), rfl, hk⟩
      · obtain ⟨d, hd1, rfl, hd3⟩ := h.par _ hd u hor
        exact ⟨d, (put_iff h.up p n _).2 (.inr ⟨hd1, fun e => ups_self (e ▸ hu : p ∈ upsS p)⟩), rfl, hd3⟩
    · obtain ⟨d, hd1, rfl, hd3⟩ := h.par e he u hu
      by_cases hdp : d.1 = p
      · rcases m5 with hk | hh
        · exact ⟨(p, n), (put_iff h.up p n _).2 (.inl rfl), hdp.symm, hk⟩
        · exact absurd (hdp ▸ hu) (holds_not h.up h.paths hh e he)
      · exact ⟨d, (put_iff h.up p n _).2 (.inr ⟨hd1, hdp⟩), rfl, hd3⟩
theorem TI.putT {xs : List NE} (h : TI xs) (p : ByteArray) (n : Nd) : TI (putT xs p n) := by
  unfold Sw.putT
  split
  · rename_i hm; exact h.putN hm
  · exact h
theorem Up.filter {xs : List NE} (h : Up ordS xs) (f : NE → Bool) : Up ordS (xs.filter f) := List.Pairwise.filter f h
theorem TI.away {xs : List NE} (h : TI xs) (p : ByteArray) : TI (xs.filter (awayT p)) := by
  refine ⟨h.up.filter _, fun e he => h.paths e (List.mem_filter.1 he).1, fun e he => h.nod e (List.mem_filter.1 he).1, fun e he u hu => ?_⟩
  obtain ⟨he, ha⟩ := List.mem_filter.1 he
  obtain ⟨h1, h2⟩ := (away_iff p e).1 ha
  obtain ⟨d, hd1, rfl, hd3⟩ := h.par e he u hu
  exact ⟨d, List.mem_filter.2 ⟨hd1, (away_iff p d).2 ⟨fun e' => h2 (e' ▸ hu), fun hq => h2 (ups_trans hq hu)⟩⟩, rfl, hd3⟩
theorem und_iff (p : ByteArray) (xs : List NE) (e : NE) : e ∈ undT p xs ↔ e ∈ xs ∧ (e.1 = p ∨ p ∈ upsS e.1) := by
  unfold Go.Proofs.YtnpehjgnplaabaaGreatDoor.undT
  rw [List.mem_filter, Bool.not_eq_true']
  constructor
  · rintro ⟨h1, h2⟩
    refine ⟨h1, ?_⟩
    rcases Classical.em (e.1 = p) with h | h
    · exact .inl h
    · right
      rcases Classical.em (p ∈ upsS e.1) with h' | h'
      · exact h'
      · rw [(away_iff p e).2 ⟨h, h'⟩] at h2; cases h2
  · rintro ⟨h1, h2⟩
    refine ⟨h1, ?_⟩
    cases ha : awayT p e with
    | false => rfl
    | true =>
      have := (away_iff p e).1 ha
      rcases h2 with h2 | h2
      · exact absurd h2 this.1
      · exact absurd h2 this.2
end Sw
