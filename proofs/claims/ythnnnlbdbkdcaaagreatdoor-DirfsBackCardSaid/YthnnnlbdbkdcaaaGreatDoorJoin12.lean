/- Several texts, joined for the limit of sixty files; each one opens with its own comment. -/
import Derived.Test.YthnnnlbdbkdcaaaGreatDoorJoin11
import Derived.Test.YthnnnlbdbkdcaaaGreatDoorJoin6
/- slices.IndexFunc and slices.DeleteFunc of a row of api.Item that the call owns; the predicate is (*swingle/tree.Tree).Under$1. -/
set_option linter.unusedVariables false
set_option linter.unusedSimpArgs false
namespace Go.Proofs.YthnnnlbdbkdcaaaGreatDoor
open Go Go.RowKit
open Sw
def IdxPostIT {α : Type} (p : α → Bool) (l : List α) (w : World) (e : Ending) (w' : World) : Prop :=
  ((∃ i : Nat, ∃ h : i < l.length, (∀ m (h : m < l.length), m < i → p l[m] = false) ∧ p l[i] = true ∧ e = .returned (.int .i64 i)) ∨ ((∀ x ∈ l, p x = false) ∧ e = .returned (.int .i64 (-1)))) ∧ Below w.heap.size w w'
set_option maxRecDepth 100000 in
set_option maxHeartbeats 4000000 in
theorem slIndexFuncIT_any (p : ByteArray × Nd → Bool) (r0 : Option Nat) (C : World → Prop) (hC : ∀ W W', C W → W.grownBy W' r0 → C W') (w : World) (A : Option Addr) (n c g : Nat) (l : List (ByteArray × Nd)) (hl : l.length = n) (hn : n ≤ 1000000) (hsl : SlOf w 5 eCIT A l) (h0 : C w)
    (hcall : ∀ W x, x ∈ l → C W → Calls Tryz.prog 62 #[.agg (eCIT x).toArray, .pointer (some ⟨g, 0, none⟩)] W fun e w' => e = .returned (.bool (p x)) ∧ Below W.heap.size W w') :
    Calls Tryz.prog 94 #[.slice A n c, .func (.func 62) #[] #[.pointer (some ⟨g, 0, none⟩)]] w (IdxPostIT p l w) := by
  have HS := Lib.hid hsl; clear hsl
  have HL := Lib.hid hl; clear hl
  have HC := Lib.hid hC; clear hC
  have HCL := Lib.hid hcall; clear hcall
  have H0 := Lib.hid h0; clear h0
  go_enter Tryz.func94, Tryz.ntmps94
  go_wp2_with fail
  go_loopw [8] (fun iv wr => ∃ i : Nat, i ≤ n ∧ iv = .int .i64 i ∧ (∀ m (h : m < l.length), m < i → p l[m] = false) ∧ Below w.heap.size w wr) (fun iv _ => n - (intOf iv).toNat)
  case atStart => exact ⟨0, Nat.zero_le _, rfl, fun m h h' => absurd h' (Nat.not_lt_zero _), Below.refl _ _⟩
  case round =>
    obtain ⟨i, hin, rfl, hno, hbr⟩ := hrel
    have HNO := Lib.hid hno; clear hno
    by_cases hlt : i < n
    · have hiL : i < l.length := by have := HL.out; omega
      obtain ⟨b, off, rfl, hbb, _⟩ := (HS.out.below hbr (Nat.le_refl _)) (by omega)
      have HR := Lib.hid ((HS.out.below hbr (Nat.le_refl _)).range eCIT_len i hiL)
      have HF := Lib.hid (HCL.out wr l[i] (List.getElem_mem hiL) (HC.out w wr H0.out (grown_below hbr)))
      have HYES := Lib.hid (fun (hp : p l[i] = true) w' (hb : Below w.heap.size w w') => (⟨.inl ⟨i, hiL, HNO.out, hp, rfl⟩, hb⟩ : IdxPostIT p l w (.returned (.int .i64 i)) w'))
      have HNO2 := Lib.hid (fun (hp : p l[i] = false) m (hm : m < l.length) (hmi : m < i + 1) => (by
        by_cases e : m = i
        · subst e; exact hp
        · exact HNO.out m hm (by omega) : p l[m] = false))
      have HX := Lib.hid (eCIT_len l[i])
      generalize p l[i] = pv at *
      generalize eCIT l[i] = ev at *
      have q2 : (i : Int) < n := by omega
      cases pv with
      | true =>
        have hyes := HYES.out rfl
        have HYES2 := Lib.hid hyes; clear hyes HYES HNO2
        go_wp2_with (refine wpList_load_mid rfl 32 (.tmp 14) rfl b (off + i * 5) rfl ev _ HR.out Tryz.underlying32 rfl (by rw [HX.out]; kernel_rfl) ?_)
        refine HF.out.mono ?_
        rintro e w2 ⟨rfl, hb2⟩
        have HP := Lib.hid (HYES2.out w2 (hbr.trans (hb2.mono hbr.size)))
        clear HR HF HNO
        go_wp2_with fail
        go_ret
        exact HP.out
      | false =>
        have hno2 := HNO2.out rfl
        have HNO3 := Lib.hid hno2; clear hno2 HYES HNO2
        go_wp2_with (refine wpList_load_mid rfl 32 (.tmp 14) rfl b (off + i * 5) rfl ev _ HR.out Tryz.underlying32 rfl (by rw [HX.out]; kernel_rfl) ?_)
        refine HF.out.mono ?_
        rintro e w2 ⟨rfl, hb2⟩
        have HP := Lib.hid (And.intro HNO3.out (hbr.trans (hb2.mono hbr.size)))
        clear HR HF HNO
        go_wp2_with fail
        go_roundw
        case rel => exact ⟨i + 1, by omega, by go_num, HP.out.1, HP.out.2⟩
        case measure => simp [intOf]; omega
    · obtain rfl : i = n := by omega
      have hpst : IdxPostIT p l w (.returned (.int .i64 (-1))) wr := ⟨.inr ⟨fun x hx => by
        obtain ⟨m, hm, rfl⟩ := List.mem_iff_getElem.1 hx
        exact HNO.out m hm (by have := HL.out; omega), rfl⟩, hbr⟩
      have HP := Lib.hid hpst; clear hpst
      go_wp2_with fail
      go_ret
      exact HP.out
/-- behind the call: the row of those that stay -/
def DelFPostIT (base : Nat) (l : List (ByteArray × Nd)) (row : Option Nat) (w : World) (e : Ending) (w' : World) : Prop :=
  ∃ v, e = .returned v ∧ w'.ownsRow base 32 5 v l.length (l.flatMap eCIT) ∧ w.grownBy w' row ∧ v.ownBlock = row
set_option maxRecDepth 100000 in
set_option maxHeartbeats 8000000 in
theorem slDelFuncIT_any (p : ByteArray × Nd → Bool) (C : World → Prop) (w : World) (base : Nat) (v : Value) (l : List (ByteArray × Nd)) (hown : w.ownsRow base 32 5 v l.length (l.flatMap eCIT)) (hC : ∀ W W', C W → W.grownBy W' v.ownBlock → C W') (gp : Nat) (hn : l.length ≤ 1000000) (h0 : C w)
    (hcall : ∀ W x, x ∈ l → C W → Calls Tryz.prog 62 #[.agg (eCIT x).toArray, .pointer (some ⟨gp, 0, none⟩)] W fun e w' => e = .returned (.bool (p x)) ∧ Below W.heap.size W w') :
    Calls Tryz.prog 61 #[v, .func (.func 62) #[] #[.pointer (some ⟨gp, 0, none⟩)]] w (DelFPostIT base (l.filter fun x => !p x) v.ownBlock w) := by
  have hslv : SlV w 5 eCIT v l := SlV.of_own hown eCIT_len (by decide)
  obtain ⟨A, c, rfl, hc1, hc2, hsl⟩ := hslv
  have HIX := Lib.hid (slIndexFuncIT_any p _ C hC w A l.length c gp l rfl hn hsl h0 hcall)
  have HO := Lib.hid hown; clear hown
  have HC := Lib.hid hC; clear hC
  have HCL := Lib.hid hcall; clear hcall
  have H0 := Lib.hid h0; clear h0
  clear hsl
  go_enter Tryz.func61, Tryz.ntmps61
  go_wp2_with fail
  refine HIX.out.mono ?_
  rintro e w1 ⟨⟨i0, hi0, hno, hyes, rfl⟩ | ⟨hnone, rfl⟩, hb1⟩
  · have hne : ((i0 : Int) == -1) = false := by rw [beq_eq_false_iff_ne]; omega
    obtain ⟨g, cap0, cur0, hA, hbg0, hB0, hnc0, hcm0, hcs0, htk0⟩ := own_form HO.out (by omega)
    obtain ⟨rfl, rfl⟩ : A = some ⟨g, 0, none⟩ ∧ c = cap0 := by injection hA with e1 e2 e3; exact ⟨e1, e3⟩
    have HFI := Lib.hid (show (l.take i0).filter (fun x => !p x) = l.take i0 ∧ (l.take (i0 + 1)).filter (fun x => !p x) = l.take i0 from by
      have h1 : (l.take i0).filter (fun x => !p x) = l.take i0 := by
        rw [List.filter_eq_self]
        intro x hx
        obtain ⟨m, hm, rfl⟩ := List.mem_iff_getElem.1 hx
        rw [List.length_take] at hm
        rw [List.getElem_take, hno m (by omega) (by omega)]; rfl
      refine ⟨h1, ?_⟩
      rw [List.take_succ_eq_append_getElem hi0, List.filter_append, h1]
      simp [hyes])
    have HB1 := Lib.hid (And.intro hb1 (own_kept HO.out hb1)); clear hb1 hno hyes hB0 htk0 hcs0
    have hi30 : (i0 : Int) + 1 ≤ 1000001 := by omega
    obtain ⟨n, hnl⟩ : ∃ n, l.length = n := ⟨_, rfl⟩
    rw [hnl] at HO HB1 hi0 hn hc1 hnc0
    unfold maxLen at hc2 hcm0
    rw [hnl]
    have HNL := Lib.hid hnl; clear hnl hA hcm0
    go_wp2_with fail
    go_loopw [5, 6] (fun iv jv wr => ∃ i j : Nat, i < j ∧ j ≤ n ∧ iv = .int .i64 i ∧ jv = .int .i64 j ∧ ∃ cs : List (ByteArray × Nd), cs.length = n ∧ wr.ownsRow base 32 5 (.slice (some ⟨g, 0, none⟩) n c) n (cs.flatMap eCIT) ∧ cs.take i = (l.take j).filter (fun x => !p x) ∧ cs.drop j = l.drop j ∧ w.grownBy wr (some g)) (fun _ jv _ => n - (intOf jv).toNat)
    case atStart => exact ⟨i0, i0 + 1, by omega, by omega, rfl, by go_num, l, HNL.out, HB1.out.2, HFI.out.2.symm, rfl, grown_below HB1.out.1⟩
    case round =>
      obtain ⟨i, j, hij, hjn, rfl, rfl, cs, hcl, ho, htk, hdr, hg⟩ := hrel
      have HR := Lib.hid (And.intro ho (And.intro htk (And.intro hdr (And.intro hg hcl)))); clear ho htk hdr hg hcl
      by_cases hlt : j < n
      · obtain ⟨gp', cap, cur, hA, hbg, hB, hnc, hcm, hcs, htk⟩ := own_form HR.out.1 (by omega)
        obtain ⟨rfl, rfl⟩ : g = gp' ∧ c = cap := by injection hA with e1 e2 e3; exact ⟨congrArg Addr.block (Option.some.inj e1), e3⟩
        have hjl : j < cs.length := by rw [HR.out.2.2.2.2]; exact hlt
        have hjL : j < l.length := by rw [HNL.out]; exact hlt
        have hxe : cs[j] = l[j] := by
          have h1 : (cs.drop j)[0]? = (l.drop j)[0]? := by rw [HR.out.2.2.1]
          rw [List.getElem?_drop, List.getElem?_drop, Nat.add_zero, List.getElem?_eq_getElem hjl, List.getElem?_eq_getElem hjL] at h1
          exact Option.some.inj h1
        have hcj := fun (q : Nat) (hq : q < 5) => (by
          have h1 := flat_get eCIT_len cs j hjl q hq
          have h2 : j * 5 + q < n * 5 := by have : (j + 1) * 5 ≤ n * 5 := Nat.mul_le_mul_right _ hlt; omega
          rw [hB.cell, ← Array.getElem?_toList, ← h1, ← htk, List.getElem?_take, if_pos h2] : wr.cell? ⟨g, j * 5 + q, none⟩ = (eCIT cs[j])[q]?)
        simp only [hxe] at hcj
        have hmem : l[j] ∈ l := List.getElem_mem hjL
        obtain ⟨x, hx⟩ : ∃ x, l[j] = x := ⟨_, rfl⟩
        rw [hx] at hmem
        simp only [hx] at hcj
        have HX := Lib.hid hx; clear hx hxe
        have hcw : C wr := HC.out w wr H0.out HR.out.2.2.2.1
        have hcw1 : C (wr.alloc (.cells (eCIT x).toArray 32)) := HC.out _ _ hcw (grown_alloc (grown_refl wr _) _)
        have HF := Lib.hid (HCL.out _ x hmem hcw1)
        have hbx := Blk.new wr 32 (eCIT x).toArray
        have hba := (Below.refl wr.heap.size wr).alloc (Nat.le_refl _) (.cells (eCIT x).toArray 32)
        have HBX := Lib.hid (And.intro hbx hba); clear hbx hba hcw hcw1 hmem
        have b0 : wr.cell? ⟨g, j * 5, none⟩ = _ := hcj 0 (by omega)
        have b1 : wr.cell? ⟨g, j * 5 + 1, none⟩ = _ := hcj 1 (by omega)
        have b2 : wr.cell? ⟨g, j * 5 + 2, none⟩ = _ := hcj 2 (by omega)
        have b3 : wr.cell? ⟨g, j * 5 + 3, none⟩ = _ := hcj 3 (by omega)
        have b4 : wr.cell? ⟨g, j * 5 + 4, none⟩ = _ := hcj 4 (by omega)
        simp only [eCIT, List.getElem?_cons_succ, List.getElem?_cons_zero] at b0 b1 b2 b3 b4
        have hq3 : (j : Int) < n := by omega
        have HB := Lib.hid hB
        have HTK := Lib.hid htk; clear hB htk hcs hcj hA hcm
        have HPX := Lib.hid (fun (hp : p x = true) => (by rw [List.take_succ_eq_append_getElem hjL, HX.out, List.filter_append, HR.out.2.1]; simp [hp] : cs.take i = (l.take (j + 1)).filter (fun x => !p x)))
        have HPY := Lib.hid (fun (hp : p x = false) => (by rw [List.take_succ_eq_append_getElem hjL, HX.out, List.filter_append, ← HR.out.2.1]; simp [hp] : (l.take (j + 1)).filter (fun x => !p x) = cs.take i ++ [x]))
        obtain ⟨pv, hpv⟩ : ∃ pv, p x = pv := ⟨_, rfl⟩
        rw [hpv] at HPX HPY HF
        simp only [eCIT] at HF
        cases pv with
        | true =>
          clear hpv
          go_wp2_with fail
          refine HF.out.mono ?_
          rintro e w2 ⟨rfl, hb2⟩
          have hg2 : w.grownBy w2 (some g) := grown_sub (grown_alloc HR.out.2.2.2.1 _) (grown_below (row := none) hb2) (fun k hk => by cases hk)
          have HZ := Lib.hid (And.intro hg2 (own_kept (own_kept HR.out.1 HBX.out.2) hb2)); clear hg2 hb2
          go_wp2_with fail
          go_roundw
          case rel => exact ⟨i, j + 1, by omega, by omega, rfl, by go_num, cs, HR.out.2.2.2.2, HZ.out.2, HPX.out (by trivial), by rw [← List.drop_drop, ← List.drop_drop, HR.out.2.2.1], HZ.out.1⟩
          case measure => simp [intOf]; omega
        | false =>
          clear hpv
          go_wp2_with fail
          refine HF.out.mono ?_
          rintro e w2 ⟨rfl, hb2⟩
          have hbx2 := (HBX.out.1).below hb2 HBX.out.1.lt
          have hg2 : w.grownBy w2 (some g) := grown_sub (grown_alloc HR.out.2.2.2.1 _) (grown_below (row := none) hb2) (fun k hk => by cases hk)
          have ho2 := own_kept (own_kept HR.out.1 HBX.out.2) hb2
          have hB := (HB.out.below HBX.out.2 HB.out.lt).below hb2 (Nat.lt_of_lt_of_le HB.out.lt HBX.out.2.size)
          have x0 : w2.cell? ⟨wr.heap.size, 0, none⟩ = _ := hbx2.cell 0
          have x1 : w2.cell? ⟨wr.heap.size, 1, none⟩ = _ := hbx2.cell 1
          have x2 : w2.cell? ⟨wr.heap.size, 2, none⟩ = _ := hbx2.cell 2
          have x3 : w2.cell? ⟨wr.heap.size, 3, none⟩ = _ := hbx2.cell 3
          have x4 : w2.cell? ⟨wr.heap.size, 4, none⟩ = _ := hbx2.cell 4
          simp [eCIT] at x0 x1 x2 x3 x4
          have fa0 := hB.frozen (i * 5)
          have fa1 := hB.frozen (i * 5 + 1)
          have fa2 := hB.frozen (i * 5 + 2)
          have fa3 := hB.frozen (i * 5 + 3)
          have fa4 := hB.frozen (i * 5 + 4)
          have hil : i < cs.length := by rw [HR.out.2.2.2.2]; omega
          have hci := fun (q : Nat) (hq : q < 5) => (by
            have h1 := flat_get eCIT_len cs i hil q hq
            have h2 : i * 5 + q < n * 5 := by have : (i + 1) * 5 ≤ n * 5 := Nat.mul_le_mul_right _ (by omega); omega
            rw [hB.cell, ← Array.getElem?_toList, ← h1, ← HTK.out, List.getElem?_take, if_pos h2] : w2.cell? ⟨g, i * 5 + q, none⟩ = (eCIT cs[i])[q]?)
          obtain ⟨y, hy⟩ : ∃ y, cs[i] = y := ⟨_, rfl⟩
          simp only [hy] at hci
          have a0 : w2.cell? ⟨g, i * 5, none⟩ = _ := hci 0 (by omega)
          have a1 : w2.cell? ⟨g, i * 5 + 1, none⟩ = _ := hci 1 (by omega)
          have a2 : w2.cell? ⟨g, i * 5 + 2, none⟩ = _ := hci 2 (by omega)
          have a3 : w2.cell? ⟨g, i * 5 + 3, none⟩ = _ := hci 3 (by omega)
          have a4 : w2.cell? ⟨g, i * 5 + 4, none⟩ = _ := hci 4 (by omega)
          simp only [eCIT, List.getElem?_cons_succ, List.getElem?_cons_zero] at a0 a1 a2 a3 a4
          clear hci hy
          have HST := Lib.hid (by
            have h1 := own_setCells (eCIT x) (i * 5) w2 _ ho2 (by rw [eCIT_len]; omega)
            have f1 := flat_put eCIT_len cs i hil x 0 (eCIT x) (by rw [eCIT_len]; omega) (by simp [eCIT_len])
            simp only [Nat.add_zero] at f1
            rw [f1] at h1
            exact And.intro h1 (grown_setCells (eCIT x) (i * 5) w2 hg2))
          have hq4 : (i : Int) < n := by omega
          have hq5 : i < n := by omega
          clear hB hg2 ho2 hb2 hbx2
          go_wp2_with fail
          go_roundw
          case rel => exact ⟨i + 1, j + 1, by omega, by omega, by go_num, by go_num, cs.set i x, by rw [List.length_set]; exact HR.out.2.2.2.2, HST.out.1, by rw [HPY.out (by trivial), List.take_succ_eq_append_getElem (by rw [List.length_set]; exact hil), List.getElem_set_self, List.take_set_of_le (Nat.le_refl _)], by rw [List.drop_set_of_lt (by omega), ← List.drop_drop, ← List.drop_drop, HR.out.2.2.1], HST.out.2⟩
          case measure => simp [intOf]; omega
      · obtain rfl : j = n := by omega
        obtain ⟨gp', cap, cur, hA, hbg, hB, hnc, hcm, hcs, htk⟩ := own_form HR.out.1 (by omega)
        obtain ⟨rfl, rfl⟩ : g = gp' ∧ c = cap := by injection hA with e1 e2 e3; exact ⟨congrArg Addr.block (Option.some.inj e1), e3⟩
        obtain ⟨r2, hcl, hr2s, hr2t⟩ := run_clear_rows (P := Tryz.prog) wr 22 32 (.agg #[.string ⟨#[]⟩, .int .i64 0, .int .i64 0, .int .u32 0, .string ⟨#[]⟩]) 5 Tryz.underlying22 Tryz.zeroValue32 rfl (by decide) g (i * 5) (j - i) (c - i) (by omega) cur 32 hB (by rw [hcs, Nat.sub_mul]; have : i * 5 ≤ j * 5 := Nat.mul_le_mul_right _ (by omega); have : j * 5 ≤ c * 5 := Nat.mul_le_mul_right _ (by omega); omega)
        have hfl : l.filter (fun x => !p x) = cs.take i := by rw [HR.out.2.1, List.take_of_length_le (by rw [HNL.out]; omega)]
        have hil : i ≤ cs.length := by rw [HR.out.2.2.2.2]; omega
        have hx2 : r2.toList.take (i * 5) = (l.filter fun x => !p x).flatMap eCIT := by
          rw [hr2t, hfl, flat_take eCIT_len, ← htk, List.take_take, Nat.min_eq_left (Nat.mul_le_mul_right _ (by omega))]
        have hli : (l.filter fun x => !p x).length = i := by rw [hfl, List.length_take]; omega
        have hfin : DelFPostIT base (l.filter fun x => !p x) (some g) w (.returned (.slice (some ⟨g, 0, none⟩) i c)) (wr.setRow g r2) :=
          ⟨_, rfl, by rw [hli]; exact own_mk hbg (hB.setRow _) (by omega) hc2 (by rw [hr2s, hcs]) hx2, grown_trans HR.out.2.2.2.1 (grown_setRow _ _ _), rfl⟩
        have HF := Lib.hid hfin; clear hfin hx2 hli hfl htk hcs hB hA hr2t hr2s hil hcm
        have h1 : (i : Int) ≤ j := by omega
        have h2 : i ≤ j := by omega
        have h3 : ¬ c = i := by omega
        have h4 : (i : Int) ≤ c := by omega
        have h5 : i ≤ c := by omega
        go_wp2_with (at_builtin; refine wpList_clear_rows _ rfl _ 22 rfl _ rfl (hcl _) ?_)
        go_ret
        exact HF.out
  · have hfl : l.filter (fun x => !p x) = l := by
      rw [List.filter_eq_self]
      intro x hx
      rw [hnone x hx]; rfl
    have hpst : DelFPostIT base (l.filter fun x => !p x) (Value.slice A l.length c).ownBlock w (.returned (.slice A l.length c)) w1 := ⟨_, rfl, by rw [hfl]; exact own_kept HO.out hb1, grown_below hb1, rfl⟩
    have HF := Lib.hid hpst; clear hpst
    clear hfl hnone hb1
    go_wp2_with fail
    go_ret
    exact HF.out
end Go.Proofs.YthnnnlbdbkdcaaaGreatDoor
/- tree.Under. -/
set_option linter.unusedVariables false
set_option linter.unusedSimpArgs false
namespace Go.Proofs.YthnnnlbdbkdcaaaGreatDoor
open Go Go.RowKit
open Sw
/-- what stands at a path and under it -/
def undT (p : ByteArray) (xs : List NE) : List NE := xs.filter fun x => !awayT p x
set_option maxRecDepth 100000 in
set_option maxHeartbeats 4000000 in
theorem treeUnder_any (w : World) (bt bm : Nat) (xs : List NE) (p : ByteArray) (h : TreeAt w bt bm xs) (hn : xs.length ≤ 1000) (hp : p.size ≤ 90000) :
    Calls Tryz.prog 21 #[.pointer (some ⟨bt, 0, none⟩), .string p] w fun e w' => ∃ r, e = .returned r ∧ OwnIt w' w.heap.size r (undT p xs) ∧ Below w.heap.size w w' := by
  have b0 := Blk.new w 9 #[.string p]
  have hB : Below w.heap.size w (w.alloc (.cells #[.string p] 9)) := (Below.refl _ w).alloc (Nat.le_refl _) _
  have hok : ∀ e ∈ xs, e.1.size ≤ 90000 := fun e he => h.map.ok e he
  have hT := h.below hB
  have HI := Lib.hid (treeItems_any _ bt bm xs hT hn)
  have H0 := Lib.hid (And.intro b0 hB); clear b0 hB hT h
  go_enter Tryz.func21, Tryz.ntmps21
  go_wp2_with fail
  refine HI.out.mono ?_
  rintro e w2 ⟨r, rfl, ho, hb2⟩
  have hB2 := H0.out.1.below hb2 H0.out.1.lt
  have hbw := H0.out.2.trans (hb2.mono H0.out.2.size)
  have hge : ∀ k, r.ownBlock = some k → w.heap.size + 1 ≤ k := fun k hk => by have := (ho.lt k hk).1; simp at this; omega
  have ho' : OwnIt w2 w.heap.size r xs := own_wide ho (by simp)
  have HDF := Lib.hid (slDelFuncIT_any (awayT p) (fun W => Blk W w.heap.size 9 #[.string p]) w2 w.heap.size r xs ho' (fun W W' hC hg => hC.grown hg (fun e => by have := hge _ e.symm; omega)) w.heap.size (by omega) hB2
    (fun W x hx hC => treeUnder1_any W w.heap.size p x hC hp (hok x hx)))
  have HF := Lib.hid (And.intro hbw hge); clear hb2 hB2 hbw hge ho ho' HI H0
  go_wp2_with fail
  refine HDF.out.mono ?_
  rintro e w3 ⟨v, rfl, hov, hg, _⟩
  have HZ := Lib.hid (And.intro hov (HF.out.1.grown hg HF.out.1.size (fun k hk => by have := HF.out.2 k hk; omega))); clear hov hg HF HDF
  go_wp2_with fail
  go_ret
  exact ⟨v, rfl, HZ.out.1, HZ.out.2⟩
end Go.Proofs.YthnnnlbdbkdcaaaGreatDoor
/- The reference's rows of items: Set. -/
set_option linter.unusedVariables false
set_option linter.unusedSimpArgs false
namespace Go.Proofs.YthnnnlbdbkdcaaaGreatDoor
open Go Go.RowKit
open Sw
/-- where the reference's Set stands -/
def SetAt (w : World) (T : Nat) (n : Nd) (L : List NE) (ov : Value) (wr : World) : Prop := OwnIt wr T ov L ∧ Blk wr T 30 n.c ∧ Below T w wr
theorem SetAt.below {w wr wr' : World} {T : Nat} {n : Nd} {L : List NE} {ov : Value} (h : SetAt w T n L ov wr) (hb : Below wr.heap.size wr wr') : SetAt w T n L ov wr' :=
  ⟨h.1.below hb, h.2.1.below hb h.2.1.lt, h.2.2.trans (hb.mono (Nat.le_of_lt h.2.1.lt))⟩
theorem SetAt.app {w wr w0 w5 : World} {T g cap m : Nat} {n : Nd} {L : List NE} {ov : Value} {x : NE} (h : SetAt w T n L ov wr) (hm : L.length = m) (hb : Below wr.heap.size wr w0)
    (hown : w5.ownsRow T 32 5 (.slice (some ⟨g, 0, none⟩) (m + 1) cap) (m + 1) (L.flatMap eCSN ++ [.string x.1, .int .i64 x.2.kind, .int .i64 x.2.mode, .int .u32 x.2.time, .string x.2.data])) (hg : w0.grownBy w5 ov.ownBlock) : SetAt w T n (L ++ [x]) (.slice (some ⟨g, 0, none⟩) (m + 1) cap) w5 := by
  have h0 := h.below hb
  exact ⟨OwnIt.app hown hm, h0.2.1.grown hg (fun e => own_ne_blk h0.1 h0.2.1 (by decide) e.symm), h0.2.2.grown hg (Nat.le_of_lt h0.2.1.lt) (fun k hk => (h0.1.lt k hk).1)⟩
set_option maxRecDepth 100000 in
set_option maxHeartbeats 8000000 in
theorem ref16Set_any (w : World) (v : Value) (l : List NE) (p : ByteArray) (n : Nd) (h : SlV w 5 eCSN v l) (hl : l.length ≤ 1000) (hp : p.size ≤ 90000) (hok : ∀ e ∈ l, e.1.size ≤ 90000) :
    Calls Tryz.prog 57 #[v, .string p, .agg n.c] w fun e w' => ∃ r, e = .returned r ∧ OwnIt w' w.heap.size r (Sw.setG ordS p n l) ∧ Below w.heap.size w w' := by
  obtain ⟨A, c, rfl, hc1, hc2, hsl⟩ := h
  obtain ⟨N, hN⟩ : ∃ N, l.length = N := ⟨_, rfl⟩
  rw [hN] at hc1 hl ⊢
  unfold maxLen at hc2
  have HL := Lib.hid hN; clear hN
  have HS := Lib.hid hsl; clear hsl
  have HOK := Lib.hid hok; clear hok
  have hb0 := (Below.refl w.heap.size w).alloc (Nat.le_refl _) (.cells n.c 30)
  obtain ⟨T, hT⟩ : ∃ T, w.heap.size = T := ⟨_, rfl⟩
  have hB0 := Blk.new w 30 n.c
  rw [hT] at hb0 hB0 ⊢
  have H0 := Lib.hid (show SetAt w T n [] (.slice none 0 0) (w.alloc (.cells n.c 30)) from ⟨World.ownsRow_nil _ _ _ _, hB0, hb0⟩); clear hb0 hB0
  have HST := Lib.hid (show Sw.setG ordS p n l = (let s := l.foldl (Sw.stepG ordS p n) (false, []); if s.1 = true then s.2 else s.2 ++ [(p, n)]) from rfl)
  generalize Sw.setG ordS p n l = R at *
  obtain ⟨kd, md, tm, dt⟩ := n
  simp only [Nd.c] at H0 ⊢
  go_enter Tryz.func57, Tryz.ntmps57
  go_wp2_with fail
  go_loopw [7, 8, 13] (fun ov dv iv wr => ∃ i : Nat, i ≤ N ∧ iv = .int .i64 i ∧ dv = .bool ((l.take i).foldl (Sw.stepG ordS p (⟨kd, md, tm, dt⟩ : Nd)) (false, [])).1 ∧ SetAt w T ⟨kd, md, tm, dt⟩ ((l.take i).foldl (Sw.stepG ordS p (⟨kd, md, tm, dt⟩ : Nd)) (false, [])).2 ov wr) (fun _ _ iv _ => N - (intOf iv).toNat)
  case atStart => exact ⟨0, Nat.zero_le _, rfl, rfl, H0.out⟩
  case round =>
    obtain ⟨i, hi, rfl, rfl, hat⟩ := hrel
    obtain ⟨A3, c3, rfl, -, -, -⟩ := SlV_of_any hat.1
    have hfl := Sw.foldG_len (c := ordS) p (⟨kd, md, tm, dt⟩ : Nd) (l.take i) (false, [])
    rw [List.length_take] at hfl
    have hbw : T ≤ wr.heap.size := Nat.le_of_lt hat.2.1.lt
    by_cases hlt : i < N
    · have hiL : i < l.length := by have := HL.out; omega
      have hst := Sw.foldG_step (c := ordS) p (⟨kd, md, tm, dt⟩ : Nd) l i hiL
      obtain ⟨S, hS⟩ : ∃ S, (l.take i).foldl (Sw.stepG ordS p (⟨kd, md, tm, dt⟩ : Nd)) (false, []) = S := ⟨_, rfl⟩
      rw [hS] at hst hat hfl ⊢
      obtain ⟨d, L⟩ := S
      simp only at hat hfl hst ⊢
      obtain ⟨b, off, rfl, hbb, hcs⟩ := (HS.out.below (B := w.heap.size) (by rw [hT]; exact hat.2.2) (Nat.le_refl _)) (by omega)
      have c0 := hcs i hiL 0 (by omega)
      have c1 := hcs i hiL 1 (by omega)
      have c2 := hcs i hiL 2 (by omega)
      have c3' := hcs i hiL 3 (by omega)
      have c4 := hcs i hiL 4 (by omega)
      simp only [eCSN, List.getElem?_cons_succ, List.getElem?_cons_zero, Nat.add_zero] at c0 c1 c2 c3' c4
      clear hcs
      have hi1 : (i : Int) < N := by omega
      have hse := str_eq l[i].1 p
      have hxk := HOK.out l[i] (List.getElem_mem hiL)
      obtain ⟨x, hx⟩ : ∃ x, l[i] = x := ⟨_, rfl⟩
      rw [hx] at hse hst hxk
      simp only [hx] at c0 c1 c2 c3' c4
      obtain ⟨m, hm⟩ : ∃ m, L.length = m := ⟨_, rfl⟩
      rw [hm] at hfl
      rw [hm] at hat
      rw [hm]
      have hm2 : m ≤ 2000 := by simp at hfl; omega
      have HAT := Lib.hid hat
      have hR1 : wr.ownsRow T 32 5 (.slice A3 m c3) m (L.flatMap eCSN) := by have := hat.1; unfold OwnIt at this; rw [hm] at this; exact this
      have HR := Lib.hid hR1; clear hR1 hat
      have hB1 : Below wr.heap.size wr (wr.alloc (.cells #[.string x.1, .int .i64 x.2.kind, .int .i64 x.2.mode, .int .u32 x.2.time, .string x.2.data] 32)) := (Below.refl _ _).alloc (Nat.le_refl _) _
      have HB1 := Lib.hid hB1; clear hB1
      have HST1 := Lib.hid (And.intro hst (And.intro hS (And.intro hx hm))); clear hst hS hx hm
      have hBX : Blk (wr.alloc (.cells #[.string x.1, .int .i64 x.2.kind, .int .i64 x.2.mode, .int .u32 x.2.time, .string x.2.data] 32)) wr.heap.size 32 #[.string x.1, .int .i64 x.2.kind, .int .i64 x.2.mode, .int .u32 x.2.time, .string x.2.data] := Blk.new wr _ _
      have HBX := Lib.hid hBX; clear hBX
      cases d with
      | true =>
        by_cases hk : x.1 = p
        · rw [decide_eq_true hk] at hse
          have hse2 : (!(x.1.toList == p.toList)) = false := by rw [hse]; rfl
          have hf : Sw.stepG ordS p (⟨kd, md, tm, dt⟩ : Nd) (true, L) x = (true, L) := by unfold Sw.stepG; simp [(ordS_ord.iff x.1 p).2 hk]
          have HF := Lib.hid hf; clear hf hk
          go_wp2_with fail
          go_roundw
          case rel => exact ⟨i + 1, by omega, by go_num, by rw [HST1.out.1, HF.out], by rw [HST1.out.1, HF.out]; exact HAT.out.below HB1.out⟩
          case measure => simp [intOf]; omega
        · rw [decide_eq_false hk] at hse
          have hse2 : (!(x.1.toList == p.toList)) = true := by rw [hse]; rfl
          have hf : Sw.stepG ordS p (⟨kd, md, tm, dt⟩ : Nd) (true, L) x = (true, L ++ [x]) := by unfold Sw.stepG; simp [show ¬ ordS x.1 p = 0 from fun e => hk ((ordS_ord.iff x.1 p).1 e)]
          have HF := Lib.hid hf; clear hf hk
          go_wp2_with (at_builtin; refine wpList_app rfl _ _ 22 rfl T 32 (.agg #[.string ⟨#[]⟩, .int .i64 0, .int .i64 0, .int .u32 0, .string ⟨#[]⟩]) 5 56 Tryz.underlying22 infoIt rfl (by decide) _ m _ rfl ((HR.out.alloc _).alloc _) (wr.heap.size + 1) 1 #[.string x.1, .int .i64 x.2.kind, .int .i64 x.2.mode, .int .u32 x.2.time, .string x.2.data] 32 rfl (blk_snd _ _ _ _) rfl (by simp [Value.oneCell']) (by omega) (by decide) (by simp; omega) _ rfl ?_; intro g cap w5 hown1 hgrow1 hat9 hlt1; have HA := Lib.hid (And.intro hown1 hgrow1); clear hown1 hgrow1 hat9 hlt1)
          go_roundw
          case rel => exact ⟨i + 1, by omega, by go_num, by rw [HST1.out.1, HF.out], by rw [HST1.out.1, HF.out]; exact SetAt.app HAT.out HST1.out.2.2.2 (HB1.out.alloc HB1.out.size _) HA.out.1 HA.out.2⟩
          case measure => simp [intOf]; omega
      | false =>
        by_cases hk : x.1 = p
        · rw [decide_eq_true hk] at hse
          have hse2 : (!(x.1.toList == p.toList)) = false := by rw [hse]; rfl
          have hf : Sw.stepG ordS p (⟨kd, md, tm, dt⟩ : Nd) (false, L) x = (true, L ++ [(p, ⟨kd, md, tm, dt⟩)]) := by unfold Sw.stepG; simp [(ordS_ord.iff x.1 p).2 hk]
          have HF := Lib.hid hf; clear hf hk
          have e0 := HAT.out.2.1.cell 0
          have e1 := HAT.out.2.1.cell 1
          have e2 := HAT.out.2.1.cell 2
          have e3 := HAT.out.2.1.cell 3
          simp [Nd.c] at e0 e1 e2 e3
          have hTw := HAT.out.2.1.lt
          go_wp2_with (at_builtin; refine wpList_app rfl _ _ 22 rfl T 32 (.agg #[.string ⟨#[]⟩, .int .i64 0, .int .i64 0, .int .u32 0, .string ⟨#[]⟩]) 5 56 Tryz.underlying22 infoIt rfl (by decide) _ m _ rfl ((HR.out.alloc _).alloc _) (wr.heap.size + 1) 1 #[.string p, .int .i64 kd, .int .i64 md, .int .u32 tm, .string dt] 32 rfl (blk_snd _ _ _ _) rfl (by simp [Value.oneCell']) (by omega) (by decide) (by simp; omega) _ rfl ?_; intro g cap w5 hown1 hgrow1 hat9 hlt1; have HA := Lib.hid (And.intro hown1 hgrow1); have x0 := ((HBX.out.alloc (.cells #[.string p, .int .i64 kd, .int .i64 md, .int .u32 tm, .string dt] 32)).grown hgrow1 (fun e => absurd (HR.out.lt _ e.symm).2 (Nat.lt_irrefl _))).cell 0; simp at x0; clear hown1 hgrow1 hat9)
          go_roundw
          case rel => exact ⟨i + 1, by omega, by go_num, by rw [HST1.out.1, HF.out], by rw [HST1.out.1, HF.out]; exact SetAt.app HAT.out HST1.out.2.2.2 (HB1.out.alloc HB1.out.size _) HA.out.1 HA.out.2⟩
          case measure => simp [intOf]; omega
        · rw [decide_eq_false hk] at hse
          have hse2 : (!(x.1.toList == p.toList)) = true := by rw [hse]; rfl
          have hbf := refBefore_any (wr.alloc (.cells #[.string x.1, .int .i64 x.2.kind, .int .i64 x.2.mode, .int .u32 x.2.time, .string x.2.data] 32)) p x.1 (by omega) (by omega)
          have hz : ¬ ordS x.1 p = 0 := fun e => hk ((ordS_ord.iff x.1 p).1 e)
          have hng := ordS_neg x.1 p
          have HB := Lib.hid hbf; clear hbf
          have HK := Lib.hid (And.intro hz hng); clear hz hng hk
          by_cases hlt2 : ordS p x.1 = -1
          · have hf : Sw.stepG ordS p (⟨kd, md, tm, dt⟩ : Nd) (false, L) x = (true, L ++ [(p, ⟨kd, md, tm, dt⟩)] ++ [x]) := by
              have h1 : 0 ≤ ordS x.1 p := by have := HK.out.2; have := ordS_neg p x.1; omega
              unfold Sw.stepG; simp [HK.out.1, h1]
            have HF := Lib.hid hf; clear hf
            have hdd : decide (ordS p x.1 = -1) = true := by simpa using hlt2
            rw [hdd] at HB
            clear hdd hlt2
            go_wp2_with fail
            refine HB.out.mono ?_
            rintro _ w1 ⟨rfl, hb1⟩
            have HBX1 := Lib.hid (HBX.out.below hb1 HBX.out.lt)
            have x0 := HBX1.out.cell 0
            have x1 := HBX1.out.cell 1
            have x2 := HBX1.out.cell 2
            have x3 := HBX1.out.cell 3
            have x4 := HBX1.out.cell 4
            simp at x0 x1 x2 x3 x4
            have HB1' := Lib.hid (HB1.out.trans (hb1.mono (by simp)))
            have hs1 : T ≤ w1.heap.size := Nat.le_trans hbw HB1'.out.size
            have HR1 := Lib.hid (own_kept HR.out HB1'.out)
            have HBT := HAT.out.2.1.below HB1'.out HAT.out.2.1.lt
            have e0 := HBT.cell 0
            have e1 := HBT.cell 1
            have e2 := HBT.cell 2
            have e3 := HBT.cell 3
            simp [Nd.c] at e0 e1 e2 e3
            have hTw := HAT.out.2.1.lt
            clear hb1 HBT
            have hneX : (Value.slice A3 m c3).ownBlock ≠ some wr.heap.size := fun e => absurd (HR.out.lt _ e).2 (Nat.lt_irrefl _)
            have HNE := Lib.hid hneX; clear hneX
            go_wp2_with (first
              | (at_builtin; refine wpList_app rfl _ _ 22 rfl T 32 (.agg #[.string ⟨#[]⟩, .int .i64 0, .int .i64 0, .int .u32 0, .string ⟨#[]⟩]) 5 56 Tryz.underlying22 infoIt rfl (by decide) _ m _ rfl (HR1.out.alloc _) w1.heap.size 1 #[.string p, .int .i64 kd, .int .i64 md, .int .u32 tm, .string dt] 32 rfl (Blk.new _ _ _) rfl (by simp [Value.oneCell']) (by omega) (by decide) (by simp; omega) _ rfl ?_; intro g cap w5 hown1 hgrow1 hat9 hlt1; have HA := Lib.hid (And.intro hown1 hgrow1); have hbx5 := (HBX1.out.alloc (.cells #[.string p, .int .i64 kd, .int .i64 md, .int .u32 tm, .string dt] 32)).grown hgrow1 HNE.out.symm; have y0 := hbx5.cell 0; have y1 := hbx5.cell 1; have y2 := hbx5.cell 2; have y3 := hbx5.cell 3; have y4 := hbx5.cell 4; simp at y0 y1 y2 y3 y4; have HX5 := Lib.hid hbx5; have hs5 : w1.heap.size ≤ w5.heap.size := Nat.le_trans (by simp) hgrow1.size; clear hbx5; clear hown1 hgrow1 hat9)
              | (at_builtin; refine wpList_app rfl _ _ 22 rfl T 32 (.agg #[.string ⟨#[]⟩, .int .i64 0, .int .i64 0, .int .u32 0, .string ⟨#[]⟩]) 5 56 Tryz.underlying22 infoIt rfl (by decide) _ (m + 1) _ rfl (HA.out.1.alloc _) w5.heap.size 1 #[.string x.1, .int .i64 x.2.kind, .int .i64 x.2.mode, .int .u32 x.2.time, .string x.2.data] 32 rfl (Blk.new _ _ _) rfl (by simp [Value.oneCell']) (by omega) (by decide) (by simp; omega) _ rfl ?_; intro g6 cap6 w56 hown1 hgrow1 hat9 hlt16; have HA6 := Lib.hid (And.intro hown1 hgrow1); clear hown1 hgrow1 hat9))
            go_roundw
            case rel =>
              have h1 := SetAt.app (x := (p, ⟨kd, md, tm, dt⟩)) HAT.out HST1.out.2.2.2 (HB1'.out.alloc HB1'.out.size _) HA.out.1 HA.out.2
              refine ⟨i + 1, by omega, by go_num, by rw [HST1.out.1, HF.out], ?_⟩
              rw [HST1.out.1, HF.out]
              have h2 := HA6.out.1
              have h3 : (L ++ [(p, (⟨kd, md, tm, dt⟩ : Nd))]).flatMap eCSN = L.flatMap eCSN ++ #[.string p, .int .i64 kd, .int .i64 md, .int .u32 tm, .string dt].toList := by rw [List.flatMap_append]; rfl
              rw [← h3] at h2
              exact SetAt.app h1 (by rw [List.length_append, List.length_singleton, HST1.out.2.2.2]) ((Below.refl _ _).alloc (Nat.le_refl _) _) h2 HA6.out.2
            case measure => simp [intOf]; omega
          · have hf : Sw.stepG ordS p (⟨kd, md, tm, dt⟩ : Nd) (false, L) x = (false, L ++ [x]) := by
              have h1 : ¬ 0 ≤ ordS x.1 p := by
                have := ordS_neg x.1 p
                rcases ordS_three p x.1 with h | h | h
                all_goals first | exact absurd h hlt2 | (have := HK.out.1; omega)
              unfold Sw.stepG; simp [HK.out.1, h1]
            have HF := Lib.hid hf; clear hf
            have hdd : decide (ordS p x.1 = -1) = false := by simpa using hlt2
            rw [hdd] at HB
            clear hdd hlt2
            go_wp2_with fail
            refine HB.out.mono ?_
            rintro _ w1 ⟨rfl, hb1⟩
            have HBX1 := Lib.hid (HBX.out.below hb1 HBX.out.lt)
            have x0 := HBX1.out.cell 0
            have x1 := HBX1.out.cell 1
            have x2 := HBX1.out.cell 2
            have x3 := HBX1.out.cell 3
            have x4 := HBX1.out.cell 4
            simp at x0 x1 x2 x3 x4
            have HB1' := Lib.hid (HB1.out.trans (hb1.mono (by simp)))
            have hs1 : T ≤ w1.heap.size := Nat.le_trans hbw HB1'.out.size
            have HR1 := Lib.hid (own_kept HR.out HB1'.out)
            clear hb1
            go_wp2_with (at_builtin; refine wpList_app rfl _ _ 22 rfl T 32 (.agg #[.string ⟨#[]⟩, .int .i64 0, .int .i64 0, .int .u32 0, .string ⟨#[]⟩]) 5 56 Tryz.underlying22 infoIt rfl (by decide) _ m _ rfl (HR1.out.alloc _) w1.heap.size 1 #[.string x.1, .int .i64 x.2.kind, .int .i64 x.2.mode, .int .u32 x.2.time, .string x.2.data] 32 rfl (Blk.new _ _ _) rfl (by simp [Value.oneCell']) (by omega) (by decide) (by simp; omega) _ rfl ?_; intro g cap w5 hown1 hgrow1 hat9 hlt1; have HA := Lib.hid (And.intro hown1 hgrow1); clear hown1 hgrow1 hat9)
            go_roundw
            case rel => exact ⟨i + 1, by omega, by go_num, by rw [HST1.out.1, HF.out], by rw [HST1.out.1, HF.out]; exact SetAt.app HAT.out HST1.out.2.2.2 (HB1'.out.alloc HB1'.out.size _) HA.out.1 HA.out.2⟩
            case measure => simp [intOf]; omega
    · obtain rfl : i = N := by omega
      have htk : l.take i = l := List.take_of_length_le (by have := HL.out; omega)
      rw [htk] at hat ⊢
      clear htk
      have HST2 := HST.out
      obtain ⟨S, hS⟩ : ∃ S, l.foldl (Sw.stepG ordS p (⟨kd, md, tm, dt⟩ : Nd)) (false, []) = S := ⟨_, rfl⟩
      rw [hS] at HST2 hat ⊢
      rw [List.take_of_length_le (by have := HL.out; omega), hS] at hfl
      clear hS
      obtain ⟨d, L⟩ := S
      simp only at hat HST2 hfl ⊢
      obtain ⟨m, hm⟩ : ∃ m, L.length = m := ⟨_, rfl⟩
      rw [hm] at hfl
      rw [hm] at hat
      rw [hm]
      have hm2 : m ≤ 2000 := by simp at hfl; omega
      have HAT := Lib.hid hat
      have hR1 : wr.ownsRow T 32 5 (.slice A3 m c3) m (L.flatMap eCSN) := by have := hat.1; unfold OwnIt at this; rw [hm] at this; exact this
      have HR := Lib.hid hR1; clear hR1
      have e0 := hat.2.1.cell 0
      have e1 := hat.2.1.cell 1
      have e2 := hat.2.1.cell 2
      have e3 := hat.2.1.cell 3
      simp [Nd.c] at e0 e1 e2 e3
      have hTw := hat.2.1.lt
      have HF := Lib.hid (And.intro HST2 hm); clear HST2 hm hat
      cases d with
      | true =>
        go_wp2_with fail
        go_ret
        have h1 := HF.out.1
        rw [if_pos trivial] at h1
        rw [h1]
        exact ⟨_, rfl, by unfold OwnIt; rw [HF.out.2]; exact HR.out, HAT.out.2.2⟩
      | false =>
        go_wp2_with (at_builtin; refine wpList_app rfl _ _ 22 rfl T 32 (.agg #[.string ⟨#[]⟩, .int .i64 0, .int .i64 0, .int .u32 0, .string ⟨#[]⟩]) 5 56 Tryz.underlying22 infoIt rfl (by decide) _ m _ rfl (HR.out.alloc _) wr.heap.size 1 #[.string p, .int .i64 kd, .int .i64 md, .int .u32 tm, .string dt] 32 rfl (Blk.new _ _ _) rfl (by simp [Value.oneCell']) (by omega) (by decide) (by simp; omega) _ rfl ?_; intro g cap w5 hown1 hgrow1 hat9 hlt1; have HA := Lib.hid (And.intro hown1 hgrow1); clear hown1 hgrow1 hat9)
        go_ret
        have h1 := HF.out.1
        rw [if_neg (by simp)] at h1
        rw [h1]
        have h2 := SetAt.app (x := (p, ⟨kd, md, tm, dt⟩)) HAT.out HF.out.2 ((Below.refl _ _).alloc (Nat.le_refl _) _) HA.out.1 HA.out.2
        exact ⟨_, rfl, h2.1, h2.2.2⟩
end Go.Proofs.YthnnnlbdbkdcaaaGreatDoor
/- The reference's rows of items: Drop. -/
set_option linter.unusedVariables false
set_option linter.unusedSimpArgs false
namespace Go.Proofs.YthnnnlbdbkdcaaaGreatDoor
open Go Go.RowKit
open Sw
theorem drop_filt (p : ByteArray) : ∀ l : List NE, Up ordS l → (l.filter fun e => !decide (e.1 = p)) = dropN ordS p l
  | [], _ => rfl
  | e :: l, hu => by
    have hO := ordS_ord
    unfold dropN
    have hlater : 0 ≤ ordS e.1 p → ∀ y ∈ l, ¬ y.1 = p := fun h0 y hy he => by
      have h1 := hu.head y hy
      rw [he] at h1
      omega
    have hkeep : 0 ≤ ordS e.1 p → (l.filter fun e => !decide (e.1 = p)) = l := fun h0 => List.filter_eq_self.2 fun y hy => by simpa using hlater h0 y hy
    by_cases h1 : ordS e.1 p < 0
    · have hne : ¬ e.1 = p := fun he => by have := (hO.iff e.1 p).2 he; omega
      rw [if_pos h1, List.filter_cons_of_pos (by simpa using hne), drop_filt p l hu.tail]
    · rw [if_neg h1]
      by_cases h2 : ordS e.1 p = 0
      · rw [if_pos h2, List.filter_cons_of_neg (by simpa using hO.zero _ _ h2), hkeep (by omega)]
      · have hne : ¬ e.1 = p := fun he => h2 ((hO.iff e.1 p).2 he)
        rw [if_neg h2, List.filter_cons_of_pos (by simpa using hne), hkeep (by omega)]
set_option maxRecDepth 100000 in
set_option maxHeartbeats 4000000 in
theorem ref16Drop_any (w : World) (B : Nat) (v : Value) (l : List NE) (p : ByteArray) (h : OwnIt w B v l) (hB : B ≤ w.heap.size) (hu : Up ordS l) (hpt : Paths l) (hl : l.length ≤ 1000) (hok : ∀ e ∈ l, e.1.size ≤ 90000) :
    Calls Tryz.prog 11 #[v, .string p] w fun e w' => ∃ r, e = .returned (.tuple #[r, .int .i64 (whyDrop l p)]) ∧ OwnIt w' B r (dropT l p) ∧ Below w.heap.size w w' := by
  have hG := ref16Get_any w v l p h.slv
  rw [refGetT_eq l p hu] at hG
  have HG := Lib.hid hG; clear hG
  have HH := Lib.hid (fun W (hb : Below w.heap.size w W) => (show Calls Tryz.prog 50 #[v, .string p] W fun e w' => e = .returned (.bool (holdsT l p)) ∧ Below W.heap.size W w' from by
    rw [holds_any l p hu hpt]; exact ref16Holds_any W v l p (h.below hb).slv hok))
  have HW := Lib.hid (fun W (hb : Below w.heap.size w W) => ref16Without_any W v l p (h.below hb).slv hl)
  have HO := Lib.hid (And.intro h hB); clear h hB
  obtain ⟨X, hX⟩ : ∃ X, getT l p = X := ⟨_, rfl⟩
  have hwd : whyDrop l p = if X.kind = 0 then 7 else if holdsT l p = true then 8 else 0 := by unfold whyDrop; rw [hX]
  have hdt : dropT l p = if whyDrop l p = 0 then dropN ordS p l else l := rfl
  generalize whyDrop l p = WD at hwd hdt ⊢
  generalize dropT l p = DT at hdt ⊢
  rw [hX] at HG
  clear hX
  obtain ⟨kd, md, tm, dt⟩ := X
  simp only [Nd.c] at HG hwd ⊢
  go_enter Tryz.func11, Tryz.ntmps11
  go_wp2_with fail
  refine HG.out.mono ?_
  rintro _ w1 ⟨rfl, hb1⟩
  have hf0 := nodeField0
  have HB1 := Lib.hid hb1; clear hb1
  by_cases hk : kd = 0
  · subst hk
    rw [if_pos rfl] at hwd
    subst hwd
    rw [if_neg (by decide)] at hdt
    subst hdt
    go_wp2_with fail
    go_ret2
    exact ⟨_, rfl, HO.out.1.below HB1.out, HB1.out⟩
  · rw [if_neg hk] at hwd
    have hk0 : (kd == 0) = false := by rw [beq_eq_false_iff_ne]; exact hk
    have HH1 := Lib.hid (HH.out w1 HB1.out)
    by_cases hh : holdsT l p = true
    · rw [hh] at HH1
      rw [if_pos hh] at hwd
      subst hwd
      rw [if_neg (by decide)] at hdt
      subst hdt
      go_wp2_with fail
      refine HH1.out.mono ?_
      rintro _ w2 ⟨rfl, hb2⟩
      have HB2 := Lib.hid (HB1.out.trans (hb2.mono HB1.out.size)); clear hb2
      go_wp2_with fail
      go_ret2
      exact ⟨_, rfl, HO.out.1.below HB2.out, HB2.out⟩
    · rw [if_neg hh] at hwd
      rw [Bool.not_eq_true] at hh
      rw [hh] at HH1
      subst hwd
      rw [if_pos rfl, ← drop_filt p l hu] at hdt
      subst hdt
      go_wp2_with fail
      refine HH1.out.mono ?_
      rintro _ w2 ⟨rfl, hb2⟩
      have HB2 := Lib.hid (HB1.out.trans (hb2.mono HB1.out.size)); clear hb2
      have HW2 := Lib.hid (HW.out w2 HB2.out)
      go_wp2_with fail
      refine HW2.out.mono ?_
      rintro _ w3 ⟨r, rfl, hr, hb3⟩
      have HF := Lib.hid (And.intro hr hb3); clear hr hb3
      go_wp2_with fail
      go_ret2
      exact ⟨_, rfl, own_wide HF.out.1 (Nat.le_trans HO.out.2 HB2.out.size), HB2.out.trans (HF.out.2.mono HB2.out.size)⟩
end Go.Proofs.YthnnnlbdbkdcaaaGreatDoor
/- XDosRef with names that do not clash with the name texts (made from it by sed). -/
set_option linter.unusedVariables false
namespace Go.Proofs.YthnnnlbdbkdcaaaGreatDoor
open Go.RowKit
open Sw
set_option maxHeartbeats 1000000 in
theorem refDosDays_any (w : World) (y m : Int) (h0 : -9223372036854775808 ≤ y) (h1 : y ≤ 9223372036854775807) :
    Calls Tryz.prog 129 #[.int .i64 y, .int .i64 m] w fun e w' => e = .returned (.int .i64 (daysI y m)) ∧ w = w' := by
  by_cases hy : y < 1980
  · have hd : daysI y m = 0 := by unfold daysI; rw [if_pos (.inl hy)]
    rw [hd]
    go_enter Tryz.func129, Tryz.ntmps129
    go_wp2_with fail
    go_ret
    exact ⟨rfl, rfl⟩
  by_cases hy2 : 2107 < y
  · have hd : daysI y m = 0 := by unfold daysI; rw [if_pos (.inr (.inl hy2))]
    rw [hd]
    go_enter Tryz.func129, Tryz.ntmps129
    go_wp2_with fail
    go_ret
    exact ⟨rfl, rfl⟩
  have HD := Lib.hid (fun (hm : ¬ (m < 1 ∨ 12 < m)) => show daysI y m = (if m = 2 then (if leapI y = true then 29 else 28) else if m = 4 ∨ m = 6 ∨ m = 9 ∨ m = 11 then 30 else 31) by
    unfold daysI
    rw [if_neg (by omega)])
  have hm : m = 1 ∨ m = 3 ∨ m = 4 ∨ m = 5 ∨ m = 6 ∨ m = 7 ∨ m = 8 ∨ m = 9 ∨ m = 10 ∨ m = 11 ∨ m = 12 ∨ m = 2 ∨ m < 1 ∨ 12 < m := by omega
  rcases hm with rfl | rfl | rfl | rfl | rfl | rfl | rfl | rfl | rfl | rfl | rfl | hm
  case inr.inr.inr.inr.inr.inr.inr.inr.inr.inr.inr =>
    rcases hm with rfl | hm
    · have e4 : (y.tmod 4 == 0) = decide (y % 4 = 0) := by
        rw [Bool.eq_iff_iff, beq_iff_eq, decide_eq_true_iff, ← Int.dvd_iff_tmod_eq_zero, ← Int.dvd_iff_emod_eq_zero]
      have hd : daysI y 2 = if leapI y = true then 29 else 28 := by
        unfold daysI
        rw [if_neg (by omega), if_pos rfl]
      unfold leapI at hd
      by_cases h4 : y % 4 = 0
      · have ht : (y.tmod 4 == 0) = true := by rw [e4]; simpa using h4
        by_cases h5 : y = 2100
        · have hn : (y != 2100) = false := by simp [h5]
          have hd' : daysI y 2 = 28 := by rw [hd]; simp [h5]
          rw [hd']
          clear hd hd' e4 h5
          go_enter Tryz.func129, Tryz.ntmps129
          go_wp2_with fail
          go_ret
          exact ⟨rfl, rfl⟩
        · have hn : (y != 2100) = true := by simp [h5]
          have hd' : daysI y 2 = 29 := by rw [hd]; simp [h5, h4]
          rw [hd']
          clear hd hd' e4
          go_enter Tryz.func129, Tryz.ntmps129
          go_wp2_with fail
          go_ret
          exact ⟨rfl, rfl⟩
      · have ht : (y.tmod 4 == 0) = false := by rw [e4]; simpa using h4
        have hd' : daysI y 2 = 28 := by rw [hd]; simp [h4]
        rw [hd']
        clear hd hd' e4
        go_enter Tryz.func129, Tryz.ntmps129
        go_wp2_with fail
        go_ret
        exact ⟨rfl, rfl⟩
    · have hd : daysI y m = 0 := by unfold daysI; rw [if_pos (.inr (.inr hm))]
      rw [hd]
      have t1 : (m == 1) = false := by rw [beq_eq_false_iff_ne]; omega
      have t2 : (m == 2) = false := by rw [beq_eq_false_iff_ne]; omega
      have t3 : (m == 3) = false := by rw [beq_eq_false_iff_ne]; omega
      have t4 : (m == 4) = false := by rw [beq_eq_false_iff_ne]; omega
      have t5 : (m == 5) = false := by rw [beq_eq_false_iff_ne]; omega
      have t6 : (m == 6) = false := by rw [beq_eq_false_iff_ne]; omega
      have t7 : (m == 7) = false := by rw [beq_eq_false_iff_ne]; omega
      have t8 : (m == 8) = false := by rw [beq_eq_false_iff_ne]; omega
      have t9 : (m == 9) = false := by rw [beq_eq_false_iff_ne]; omega
      have t10 : (m == 10) = false := by rw [beq_eq_false_iff_ne]; omega
      have t11 : (m == 11) = false := by rw [beq_eq_false_iff_ne]; omega
      have t12 : (m == 12) = false := by rw [beq_eq_false_iff_ne]; omega
      clear hd hm
      go_enter Tryz.func129, Tryz.ntmps129
      go_wp2_with fail
      go_ret
      exact ⟨rfl, rfl⟩
  all_goals
    have hd := HD.out (by omega)
    simp at hd
    rw [hd]
    clear hd HD
    go_enter Tryz.func129, Tryz.ntmps129
    go_wp2_with fail
    go_ret
    exact ⟨rfl, rfl⟩
theorem refDosSplit_any (w : World) (t : Int) (h0 : 0 ≤ t) (h1 : t < 4294967296) :
    Calls Tryz.prog 115 #[.int .u32 t] w fun e w' => e = .returned (.agg (Dt.v (splitD t))) ∧ Below w.heap.size w w' := by
  go_enter Tryz.func115, Tryz.ntmps115
  have hrow : Dt.v (splitD t) = #[Value.int IntKind.i64 (1980 + t / 32 / 64 / 32 / 32 / 16), Value.int IntKind.i64 (t / 32 / 64 / 32 / 32 % 16), Value.int IntKind.i64 (t / 32 / 64 / 32 % 32), Value.int IntKind.i64 (t / 32 / 64 % 32), Value.int IntKind.i64 (t / 32 % 64), Value.int IntKind.i64 (2 * (t % 32))] := by
    have e1 : t / 32 / 64 / 32 / 32 / 16 = t / 33554432 := by omega
    have e2 : t / 32 / 64 / 32 / 32 = t / 2097152 := by omega
    have e3 : t / 32 / 64 / 32 = t / 65536 := by omega
    have e4 : t / 32 / 64 = t / 2048 := by omega
    rw [e1, e2, e3, e4]; rfl
  rw [hrow]
  have HROW := Lib.hid hrow; clear hrow
  go_wp2_with fail
  refine bodyPost_ret (results_cell_row rfl _ _ w.heap.size 128 _ (0, 0) _ rfl ((Blk.new w _ _).alloc _) Tryz.underlying128 rfl (by kernel_rfl)) rfl ⟨rfl, ((Below.refl w.heap.size w).alloc (Nat.le_refl _) _).alloc (by simp) _⟩
set_option maxRecDepth 100000 in
set_option maxHeartbeats 40000000 in
theorem refDosRight_any (w : World) (x : Dt) (hx : Dt.In x) :
    Calls Tryz.prog 114 #[.agg (Dt.v x)] w fun e w' => e = .returned (.bool (decide x.Ok)) ∧ Below w.heap.size w w' := by
  have hT : TimeAt w w.heap.size 128 x (w.alloc (Obj.cells (Dt.v x) 128)) := ⟨Blk.new _ _ _, (Below.refl _ _).alloc (Nat.le_refl _) _⟩
  have HTD := Lib.hid (show TimeAt w w.heap.size 128 x (w.alloc (Obj.cells (Dt.v x) 128)).drew from ⟨hT.1, hT.2.drew⟩)
  have hD := fun W => refDosDays_any W x.y x.m hx.y0 hx.y1
  have hdl := daysI_le x.y x.m
  have hOk : x.Ok = (1 ≤ x.d ∧ x.d ≤ daysI x.y x.m ∧ 0 ≤ x.h ∧ x.h < 24 ∧ 0 ≤ x.mi ∧ x.mi < 60 ∧ 0 ≤ x.s ∧ x.s < 60 ∧ x.s % 2 = 0) := rfl
  generalize hdy : daysI x.y x.m = dy at *
  have HD := Lib.hid hD; clear hD
  have HOK := Lib.hid hOk; clear hOk
  have hm2 : (x.s.tmod 2 == 0) = decide (x.s % 2 = 0) := by rw [Bool.eq_iff_iff, beq_iff_eq, decide_eq_true_iff, ← Int.dvd_iff_tmod_eq_zero, ← Int.dvd_iff_emod_eq_zero]
  have HM2 := Lib.hid hm2; clear hm2
  clear hT hdy
  have q0 : ∀ n : Held (TimeAt w w.heap.size 128 x), (HeldW n).cell? ⟨w.heap.size, 0, none⟩ = some (.int .i64 x.y) := fun n => (HeldW_spec n).1.cell 0
  have q1 : ∀ n : Held (TimeAt w w.heap.size 128 x), (HeldW n).cell? ⟨w.heap.size, 1, none⟩ = some (.int .i64 x.m) := fun n => (HeldW_spec n).1.cell 1
  have q2 : ∀ n : Held (TimeAt w w.heap.size 128 x), (HeldW n).cell? ⟨w.heap.size, 2, none⟩ = some (.int .i64 x.d) := fun n => (HeldW_spec n).1.cell 2
  have q3 : ∀ n : Held (TimeAt w w.heap.size 128 x), (HeldW n).cell? ⟨w.heap.size, 3, none⟩ = some (.int .i64 x.h) := fun n => (HeldW_spec n).1.cell 3
  have q4 : ∀ n : Held (TimeAt w w.heap.size 128 x), (HeldW n).cell? ⟨w.heap.size, 4, none⟩ = some (.int .i64 x.mi) := fun n => (HeldW_spec n).1.cell 4
  have q5 : ∀ n : Held (TimeAt w w.heap.size 128 x), (HeldW n).cell? ⟨w.heap.size, 5, none⟩ = some (.int .i64 x.s) := fun n => (HeldW_spec n).1.cell 5
  haveI : Nonempty (Held (TimeAt w w.heap.size 128 x)) := held_some HTD.out
  obtain ⟨y0, y1, m0, m1, d0, d1, hh0, hh1, i0, i1, s0, s1⟩ := hx
  by_cases c0 : 1 ≤ x.d
  · skip
    by_cases c1 : x.d ≤ dy
    · skip
      by_cases c2 : 0 ≤ x.h
      · skip
        by_cases c3 : x.h ≤ 23
        · skip
          by_cases c4 : 0 ≤ x.mi
          · skip
            by_cases c5 : x.mi ≤ 59
            · skip
              by_cases c6 : 0 ≤ x.s
              · skip
                by_cases c7 : x.s ≤ 58
                · skip
                  by_cases c8 : x.s % 2 = 0
                  · skip
                    have t2 : (x.s.tmod 2 == 0) = true := by rw [HM2.out]; exact decide_eq_true c8
                    have HR := Lib.hid (show decide x.Ok = true by rw [decide_eq_true_iff, HOK.out]; omega)
                    go_enter Tryz.func114, Tryz.ntmps114
                    go_wp2_with fail
                    refine wp_region_class (TimeAt w w.heap.size 128 x) (by kernel_rfl) (by kernel_rfl) HTD.out ?_
                    repeat (go_big_quiet_step (with_reducible exact held_same (HD.out _)))
                    refine wpQuiet_nil ?_
                    rintro _ ⟨n, rfl⟩
                    go_wp2_with fail
                    go_ret
                    rw [HR.out]
                    exact ⟨by first | (simp; done) | (simp; omega), (HeldW_spec n).2⟩
                  · skip
                    have t2 : (x.s.tmod 2 == 0) = false := by rw [HM2.out]; exact decide_eq_false c8
                    have HR := Lib.hid (show decide x.Ok = false by rw [decide_eq_false_iff_not, HOK.out]; omega)
                    go_enter Tryz.func114, Tryz.ntmps114
                    go_wp2_with fail
                    refine wp_region_class (TimeAt w w.heap.size 128 x) (by kernel_rfl) (by kernel_rfl) HTD.out ?_
                    repeat (go_big_quiet_step (with_reducible exact held_same (HD.out _)))
                    refine wpQuiet_nil ?_
                    rintro _ ⟨n, rfl⟩
                    go_wp2_with fail
                    go_ret
                    rw [HR.out]
                    exact ⟨by first | (simp; done) | (simp; omega), (HeldW_spec n).2⟩
                · skip
                  have t7f : decide (x.s ≤ 58) = false := decide_eq_false c7
                  have HR := Lib.hid (show decide x.Ok = false by rw [decide_eq_false_iff_not, HOK.out]; omega)
                  go_enter Tryz.func114, Tryz.ntmps114
                  go_wp2_with fail
                  refine wp_region_class (TimeAt w w.heap.size 128 x) (by kernel_rfl) (by kernel_rfl) HTD.out ?_
                  repeat (go_big_quiet_step (with_reducible exact held_same (HD.out _)))
                  refine wpQuiet_nil ?_
                  rintro _ ⟨n, rfl⟩
                  go_wp2_with fail
                  go_ret
                  rw [HR.out]
                  exact ⟨by first | (simp; done) | (simp; omega), (HeldW_spec n).2⟩
              · skip
                have t6f : decide (0 ≤ x.s) = false := decide_eq_false c6
                have HR := Lib.hid (show decide x.Ok = false by rw [decide_eq_false_iff_not, HOK.out]; omega)
                go_enter Tryz.func114, Tryz.ntmps114
                go_wp2_with fail
                refine wp_region_class (TimeAt w w.heap.size 128 x) (by kernel_rfl) (by kernel_rfl) HTD.out ?_
                repeat (go_big_quiet_step (with_reducible exact held_same (HD.out _)))
                refine wpQuiet_nil ?_
                rintro _ ⟨n, rfl⟩
                go_wp2_with fail
                go_ret
                rw [HR.out]
                exact ⟨by first | (simp; done) | (simp; omega), (HeldW_spec n).2⟩
            · skip
              have t5f : decide (x.mi ≤ 59) = false := decide_eq_false c5
              have HR := Lib.hid (show decide x.Ok = false by rw [decide_eq_false_iff_not, HOK.out]; omega)
              go_enter Tryz.func114, Tryz.ntmps114
              go_wp2_with fail
              refine wp_region_class (TimeAt w w.heap.size 128 x) (by kernel_rfl) (by kernel_rfl) HTD.out ?_
              repeat (go_big_quiet_step (with_reducible exact held_same (HD.out _)))
              refine wpQuiet_nil ?_
              rintro _ ⟨n, rfl⟩
              go_wp2_with fail
              go_ret
              rw [HR.out]
              exact ⟨by first | (simp; done) | (simp; omega), (HeldW_spec n).2⟩
          · skip
            have t4f : decide (0 ≤ x.mi) = false := decide_eq_false c4
            have HR := Lib.hid (show decide x.Ok = false by rw [decide_eq_false_iff_not, HOK.out]; omega)
            go_enter Tryz.func114, Tryz.ntmps114
            go_wp2_with fail
            refine wp_region_class (TimeAt w w.heap.size 128 x) (by kernel_rfl) (by kernel_rfl) HTD.out ?_
            repeat (go_big_quiet_step (with_reducible exact held_same (HD.out _)))
            refine wpQuiet_nil ?_
            rintro _ ⟨n, rfl⟩
            go_wp2_with fail
            go_ret
            rw [HR.out]
            exact ⟨by first | (simp; done) | (simp; omega), (HeldW_spec n).2⟩
        · skip
          have t3f : decide (x.h ≤ 23) = false := decide_eq_false c3
          have HR := Lib.hid (show decide x.Ok = false by rw [decide_eq_false_iff_not, HOK.out]; omega)
          go_enter Tryz.func114, Tryz.ntmps114
          go_wp2_with fail
          refine wp_region_class (TimeAt w w.heap.size 128 x) (by kernel_rfl) (by kernel_rfl) HTD.out ?_
          repeat (go_big_quiet_step (with_reducible exact held_same (HD.out _)))
          refine wpQuiet_nil ?_
          rintro _ ⟨n, rfl⟩
          go_wp2_with fail
          go_ret
          rw [HR.out]
          exact ⟨by first | (simp; done) | (simp; omega), (HeldW_spec n).2⟩
      · skip
        have t2f : decide (0 ≤ x.h) = false := decide_eq_false c2
        have HR := Lib.hid (show decide x.Ok = false by rw [decide_eq_false_iff_not, HOK.out]; omega)
        go_enter Tryz.func114, Tryz.ntmps114
        go_wp2_with fail
        refine wp_region_class (TimeAt w w.heap.size 128 x) (by kernel_rfl) (by kernel_rfl) HTD.out ?_
        repeat (go_big_quiet_step (with_reducible exact held_same (HD.out _)))
        refine wpQuiet_nil ?_
        rintro _ ⟨n, rfl⟩
        go_wp2_with fail
        go_ret
        rw [HR.out]
        exact ⟨by first | (simp; done) | (simp; omega), (HeldW_spec n).2⟩
    · skip
      have t1f : decide (x.d ≤ dy) = false := decide_eq_false c1
      have HR := Lib.hid (show decide x.Ok = false by rw [decide_eq_false_iff_not, HOK.out]; omega)
      go_enter Tryz.func114, Tryz.ntmps114
      go_wp2_with fail
      refine wp_region_class (TimeAt w w.heap.size 128 x) (by kernel_rfl) (by kernel_rfl) HTD.out ?_
      repeat (go_big_quiet_step (with_reducible exact held_same (HD.out _)))
      refine wpQuiet_nil ?_
      rintro _ ⟨n, rfl⟩
      go_wp2_with fail
      go_ret
      rw [HR.out]
      exact ⟨by first | (simp; done) | (simp; omega), (HeldW_spec n).2⟩
  · skip
    have t0f : decide (1 ≤ x.d) = false := decide_eq_false c0
    have HR := Lib.hid (show decide x.Ok = false by rw [decide_eq_false_iff_not, HOK.out]; omega)
    go_enter Tryz.func114, Tryz.ntmps114
    go_wp2_with fail
    refine wp_region_class (TimeAt w w.heap.size 128 x) (by kernel_rfl) (by kernel_rfl) HTD.out ?_
    repeat (go_big_quiet_step (with_reducible exact held_same (HD.out _)))
    refine wpQuiet_nil ?_
    rintro _ ⟨n, rfl⟩
    go_wp2_with fail
    go_ret
    rw [HR.out]
    exact ⟨by first | (simp; done) | (simp; omega), (HeldW_spec n).2⟩
end Go.Proofs.YthnnnlbdbkdcaaaGreatDoor
