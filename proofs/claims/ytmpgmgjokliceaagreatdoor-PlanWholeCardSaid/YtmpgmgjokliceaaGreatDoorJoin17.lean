/- Several texts, joined for the limit of sixty files; each one opens with its own comment. -/
import Derived.Test.YtmpgmgjokliceaaGreatDoorJoin16
/- slices.Delete of one element out of a row of api.Item that the call owns. -/
set_option linter.unusedVariables false
set_option linter.unusedSimpArgs false
namespace Go.Proofs.YtmpgmgjokliceaaGreatDoor
open Go Go.RowKit
open Sw
/-- behind the call: a row with one element less -/
def DelPostIT (base n : Nat) (xs : List Value) (row : Option Nat) (w : World) (e : Ending) (w' : World) : Prop :=
  ∃ v, e = .returned v ∧ w'.ownsRow base 70 5 v n xs ∧ w.grownBy w' row ∧ v.ownBlock = row
end Go.Proofs.YtmpgmgjokliceaaGreatDoor
/- slices.IndexFunc and slices.DeleteFunc of a row of api.Item that the call owns; the predicate is (*swingle/tree.Tree).Under$1. -/
set_option linter.unusedVariables false
set_option linter.unusedSimpArgs false
namespace Go.Proofs.YtmpgmgjokliceaaGreatDoor
open Go Go.RowKit
open Sw
def IdxPostIT {α : Type} (p : α → Bool) (l : List α) (w : World) (e : Ending) (w' : World) : Prop :=
  ((∃ i : Nat, ∃ h : i < l.length, (∀ m (h : m < l.length), m < i → p l[m] = false) ∧ p l[i] = true ∧ e = .returned (.int .i64 i)) ∨ ((∀ x ∈ l, p x = false) ∧ e = .returned (.int .i64 (-1)))) ∧ Below w.heap.size w w'
set_option maxRecDepth 100000 in
set_option maxHeartbeats 4000000 in
theorem slIndexFuncIT_any (p : ByteArray × Nd → Bool) (r0 : Option Nat) (C : World → Prop) (hC : ∀ W W', C W → W.grownBy W' r0 → C W') (w : World) (A : Option Addr) (n c g : Nat) (l : List (ByteArray × Nd)) (hl : l.length = n) (hn : n ≤ 1000000) (hsl : SlOf w 5 eCIT A l) (h0 : C w)
    (hcall : ∀ W x, x ∈ l → C W → Calls Tryz.prog 57 #[.agg (eCIT x).toArray, .pointer (some ⟨g, 0, none⟩)] W fun e w' => e = .returned (.bool (p x)) ∧ Below W.heap.size W w') :
    Calls Tryz.prog 111 #[.slice A n c, .func (.func 57) #[] #[.pointer (some ⟨g, 0, none⟩)]] w (IdxPostIT p l w) := by
  have HS := Lib.hid hsl; clear hsl
  have HL := Lib.hid hl; clear hl
  have HC := Lib.hid hC; clear hC
  have HCL := Lib.hid hcall; clear hcall
  have H0 := Lib.hid h0; clear h0
  go_enter Tryz.func111, Tryz.ntmps111
  go_wp2_with fail
  go_loopw [8] (fun iv wr => ∃ i : Nat, i ≤ n ∧ iv = .int .i64 i ∧ (∀ m (h : m < l.length), m < i → p l[m] = false) ∧ Below w.heap.size w wr) (fun iv _ => n - (intOf iv).toNat)
  case atStart => exact ⟨0, Nat.zero_le _, rfl, fun m h h' => absurd h' (Nat.not_lt_zero _), Below.refl _ _⟩
  case round =>
    obtain ⟨i, hin, rfl, hno, hbr⟩ := hrel
    have HNO := Lib.hid hno; clear hno
    by_cases hlt : i < n
    · have hiL : i < l.length := by have := HL.out; omega
      obtain ⟨b, off, rfl, hbb, _⟩ := (HS.out.below hbr (Nat.le_refl _)) (by omega)
      have HR := Lib.hid ((HS.out.below hbr (Nat.le_refl _)).range eCIT_len i hiL)
      have HF := Lib.hid (HCL.out wr l[i] (List.getElem_mem hiL) (HC.out w wr H0.out (grown_below hbr)))
      have HYES := Lib.hid (fun (hp : p l[i] = true) w' (hb : Below w.heap.size w w') => (⟨.inl ⟨i, hiL, HNO.out, hp, rfl⟩, hb⟩ : IdxPostIT p l w (.returned (.int .i64 i)) w'))
      have HNO2 := Lib.hid (fun (hp : p l[i] = false) m (hm : m < l.length) (hmi : m < i + 1) => (by
        by_cases e : m = i
        · subst e; exact hp
        · exact HNO.out m hm (by omega) : p l[m] = false))
      have HX := Lib.hid (eCIT_len l[i])
      generalize p l[i] = pv at *
      generalize eCIT l[i] = ev at *
      have q2 : (i : Int) < n := by omega
      cases pv with
      | true =>
        have hyes := HYES.out rfl
        have HYES2 := Lib.hid hyes; clear hyes HYES HNO2
        go_wp2_with (refine wpList_load_mid rfl 70 (.tmp 14) rfl b (off + i * 5) rfl ev _ HR.out Tryz.underlying70 rfl (by rw [HX.out]; kernel_rfl) ?_)
        refine HF.out.mono ?_
        rintro e w2 ⟨rfl, hb2⟩
        have HP := Lib.hid (HYES2.out w2 (hbr.trans (hb2.mono hbr.size)))
        clear HR HF HNO
        go_wp2_with fail
        go_ret
        exact HP.out
      | false =>
        have hno2 := HNO2.out rfl
        have HNO3 := Lib.hid hno2; clear hno2 HYES HNO2
        go_wp2_with (refine wpList_load_mid rfl 70 (.tmp 14) rfl b (off + i * 5) rfl ev _ HR.out Tryz.underlying70 rfl (by rw [HX.out]; kernel_rfl) ?_)
        refine HF.out.mono ?_
        rintro e w2 ⟨rfl, hb2⟩
        have HP := Lib.hid (And.intro HNO3.out (hbr.trans (hb2.mono hbr.size)))
        clear HR HF HNO
        go_wp2_with fail
        go_roundw
        case rel => exact ⟨i + 1, by omega, by go_num, HP.out.1, HP.out.2⟩
        case measure => simp [intOf]; omega
    · obtain rfl : i = n := by omega
      have hpst : IdxPostIT p l w (.returned (.int .i64 (-1))) wr := ⟨.inr ⟨fun x hx => by
        obtain ⟨m, hm, rfl⟩ := List.mem_iff_getElem.1 hx
        exact HNO.out m hm (by have := HL.out; omega), rfl⟩, hbr⟩
      have HP := Lib.hid hpst; clear hpst
      go_wp2_with fail
      go_ret
      exact HP.out
/-- behind the call: the row of those that stay -/
def DelFPostIT (base : Nat) (l : List (ByteArray × Nd)) (row : Option Nat) (w : World) (e : Ending) (w' : World) : Prop :=
  ∃ v, e = .returned v ∧ w'.ownsRow base 70 5 v l.length (l.flatMap eCIT) ∧ w.grownBy w' row ∧ v.ownBlock = row
set_option maxRecDepth 100000 in
set_option maxHeartbeats 8000000 in
theorem slDelFuncIT_any (p : ByteArray × Nd → Bool) (C : World → Prop) (w : World) (base : Nat) (v : Value) (l : List (ByteArray × Nd)) (hown : w.ownsRow base 70 5 v l.length (l.flatMap eCIT)) (hC : ∀ W W', C W → W.grownBy W' v.ownBlock → C W') (gp : Nat) (hn : l.length ≤ 1000000) (h0 : C w)
    (hcall : ∀ W x, x ∈ l → C W → Calls Tryz.prog 57 #[.agg (eCIT x).toArray, .pointer (some ⟨gp, 0, none⟩)] W fun e w' => e = .returned (.bool (p x)) ∧ Below W.heap.size W w') :
    Calls Tryz.prog 56 #[v, .func (.func 57) #[] #[.pointer (some ⟨gp, 0, none⟩)]] w (DelFPostIT base (l.filter fun x => !p x) v.ownBlock w) := by
  have hslv : SlV w 5 eCIT v l := SlV.of_own hown eCIT_len (by decide)
  obtain ⟨A, c, rfl, hc1, hc2, hsl⟩ := hslv
  have HIX := Lib.hid (slIndexFuncIT_any p _ C hC w A l.length c gp l rfl hn hsl h0 hcall)
  have HO := Lib.hid hown; clear hown
  have HC := Lib.hid hC; clear hC
  have HCL := Lib.hid hcall; clear hcall
  have H0 := Lib.hid h0; clear h0
  clear hsl
  go_enter Tryz.func56, Tryz.ntmps56
  go_wp2_with fail
  refine HIX.out.mono ?_
  rintro e w1 ⟨⟨i0, hi0, hno, hyes, rfl⟩ | ⟨hnone, rfl⟩, hb1⟩
  · have hne : ((i0 : Int) == -1) = false := by rw [beq_eq_false_iff_ne]; omega
    obtain ⟨g, cap0, cur0, hA, hbg0, hB0, hnc0, hcm0, hcs0, htk0⟩ := own_form HO.out (by omega)
    obtain ⟨rfl, rfl⟩ : A = some ⟨g, 0, none⟩ ∧ c = cap0 := by injection hA with e1 e2 e3; exact ⟨e1, e3⟩
    have HFI := Lib.hid (show (l.take i0).filter (fun x => !p x) = l.take i0 ∧ (l.take (i0 + 1)).filter (fun x => !p x) = l.take i0 from by
      have h1 : (l.take i0).filter (fun x => !p x) = l.take i0 := by
        rw [List.filter_eq_self]
        intro x hx
        obtain ⟨m, hm, rfl⟩ := List.mem_iff_getElem.1 hx
        rw [List.length_take] at hm
        rw [List.getElem_take, hno m (by omega) (by omega)]; rfl
      refine ⟨h1, ?_⟩
      rw [List.take_succ_eq_append_getElem hi0, List.filter_append, h1]
      simp [hyes])
    have HB1 := Lib.hid (And.intro hb1 (own_kept HO.out hb1)); clear hb1 hno hyes hB0 htk0 hcs0
    have hi30 : (i0 : Int) + 1 ≤ 1000001 := by omega
    obtain ⟨n, hnl⟩ : ∃ n, l.length = n := ⟨_, rfl⟩
    rw [hnl] at HO HB1 hi0 hn hc1 hnc0
    unfold maxLen at hc2 hcm0
    rw [hnl]
    have HNL := Lib.hid hnl; clear hnl hA hcm0
    go_wp2_with fail
    go_loopw [5, 6] (fun iv jv wr => ∃ i j : Nat, i < j ∧ j ≤ n ∧ iv = .int .i64 i ∧ jv = .int .i64 j ∧ ∃ cs : List (ByteArray × Nd), cs.length = n ∧ wr.ownsRow base 70 5 (.slice (some ⟨g, 0, none⟩) n c) n (cs.flatMap eCIT) ∧ cs.take i = (l.take j).filter (fun x => !p x) ∧ cs.drop j = l.drop j ∧ w.grownBy wr (some g)) (fun _ jv _ => n - (intOf jv).toNat)
    case atStart => exact ⟨i0, i0 + 1, by omega, by omega, rfl, by go_num, l, HNL.out, HB1.out.2, HFI.out.2.symm, rfl, grown_below HB1.out.1⟩
    case round =>
      obtain ⟨i, j, hij, hjn, rfl, rfl, cs, hcl, ho, htk, hdr, hg⟩ := hrel
      have HR := Lib.hid (And.intro ho (And.intro htk (And.intro hdr (And.intro hg hcl)))); clear ho htk hdr hg hcl
      by_cases hlt : j < n
      · obtain ⟨gp', cap, cur, hA, hbg, hB, hnc, hcm, hcs, htk⟩ := own_form HR.out.1 (by omega)
        obtain ⟨rfl, rfl⟩ : g = gp' ∧ c = cap := by injection hA with e1 e2 e3; exact ⟨congrArg Addr.block (Option.some.inj e1), e3⟩
        have hjl : j < cs.length := by rw [HR.out.2.2.2.2]; exact hlt
        have hjL : j < l.length := by rw [HNL.out]; exact hlt
        have hxe : cs[j] = l[j] := by
          have h1 : (cs.drop j)[0]? = (l.drop j)[0]? := by rw [HR.out.2.2.1]
          rw [List.getElem?_drop, List.getElem?_drop, Nat.add_zero, List.getElem?_eq_getElem hjl, List.getElem?_eq_getElem hjL] at h1
          exact Option.some.inj h1
        have hcj := fun (q : Nat) (hq : q < 5) => (by
          have h1 := flat_get eCIT_len cs j hjl q hq
          have h2 : j * 5 + q < n * 5 := by have : (j + 1) * 5 ≤ n * 5 := Nat.mul_le_mul_right _ hlt; omega
          rw [hB.cell, ← Array.getElem?_toList, ← h1, ← htk, List.getElem?_take, if_pos h2] : wr.cell? ⟨g, j * 5 + q, none⟩ = (eCIT cs[j])[q]?)
        simp only [hxe] at hcj
        have hmem : l[j] ∈ l := List.getElem_mem hjL
        obtain ⟨x, hx⟩ : ∃ x, l[j] = x := ⟨_, rfl⟩
        rw [hx] at hmem
        simp only [hx] at hcj
        have HX := Lib.hid hx; clear hx hxe
        have hcw : C wr := HC.out w wr H0.out HR.out.2.2.2.1
        have hcw1 : C (wr.alloc (.cells (eCIT x).toArray 70)) := HC.out _ _ hcw (grown_alloc (grown_refl wr _) _)
        have HF := Lib.hid (HCL.out _ x hmem hcw1)
        have hbx := Blk.new wr 70 (eCIT x).toArray
        have hba := (Below.refl wr.heap.size wr).alloc (Nat.le_refl _) (.cells (eCIT x).toArray 70)
        have HBX := Lib.hid (And.intro hbx hba); clear hbx hba hcw hcw1 hmem
        have b0 : wr.cell? ⟨g, j * 5, none⟩ = _ := hcj 0 (by omega)
        have b1 : wr.cell? ⟨g, j * 5 + 1, none⟩ = _ := hcj 1 (by omega)
        have b2 : wr.cell? ⟨g, j * 5 + 2, none⟩ = _ := hcj 2 (by omega)
        have b3 : wr.cell? ⟨g, j * 5 + 3, none⟩ = _ := hcj 3 (by omega)
        have b4 : wr.cell? ⟨g, j * 5 + 4, none⟩ = _ := hcj 4 (by omega)
        simp only [eCIT, List.getElem?_cons_succ, List.getElem?_cons_zero] at b0 b1 b2 b3 b4
        have hq3 : (j : Int) < n := by omega
        have HB := Lib.hid hB
        have HTK := Lib.hid htk; clear hB htk hcs hcj hA hcm
        have HPX := Lib.hid (fun (hp : p x = true) => (by rw [List.take_succ_eq_append_getElem hjL, HX.out, List.filter_append, HR.out.2.1]; simp [hp] : cs.take i = (l.take (j + 1)).filter (fun x => !p x)))
        have HPY := Lib.hid (fun (hp : p x = false) => (by rw [List.take_succ_eq_append_getElem hjL, HX.out, List.filter_append, ← HR.out.2.1]; simp [hp] : (l.take (j + 1)).filter (fun x => !p x) = cs.take i ++ [x]))
        obtain ⟨pv, hpv⟩ : ∃ pv, p x = pv := ⟨_, rfl⟩
        rw [hpv] at HPX HPY HF
        simp only [eCIT] at HF
        cases pv with
        | true =>
          clear hpv
          go_wp2_with fail
          refine HF.out.mono ?_
          rintro e w2 ⟨rfl, hb2⟩
          have hg2 : w.grownBy w2 (some g) := grown_sub (grown_alloc HR.out.2.2.2.1 _) (grown_below (row := none) hb2) (fun k hk => by cases hk)
          have HZ := Lib.hid (And.intro hg2 (own_kept (own_kept HR.out.1 HBX.out.2) hb2)); clear hg2 hb2
          go_wp2_with fail
          go_roundw
          case rel => exact ⟨i, j + 1, by omega, by omega, rfl, by go_num, cs, HR.out.2.2.2.2, HZ.out.2, HPX.out (by trivial), by rw [← List.drop_drop, ← List.drop_drop, HR.out.2.2.1], HZ.out.1⟩
          case measure => simp [intOf]; omega
        | false =>
          clear hpv
          go_wp2_with fail
          refine HF.out.mono ?_
          rintro e w2 ⟨rfl, hb2⟩
          have hbx2 := (HBX.out.1).below hb2 HBX.out.1.lt
          have hg2 : w.grownBy w2 (some g) := grown_sub (grown_alloc HR.out.2.2.2.1 _) (grown_below (row := none) hb2) (fun k hk => by cases hk)
          have ho2 := own_kept (own_kept HR.out.1 HBX.out.2) hb2
          have hB := (HB.out.below HBX.out.2 HB.out.lt).below hb2 (Nat.lt_of_lt_of_le HB.out.lt HBX.out.2.size)
          have x0 : w2.cell? ⟨wr.heap.size, 0, none⟩ = _ := hbx2.cell 0
          have x1 : w2.cell? ⟨wr.heap.size, 1, none⟩ = _ := hbx2.cell 1
          have x2 : w2.cell? ⟨wr.heap.size, 2, none⟩ = _ := hbx2.cell 2
          have x3 : w2.cell? ⟨wr.heap.size, 3, none⟩ = _ := hbx2.cell 3
          have x4 : w2.cell? ⟨wr.heap.size, 4, none⟩ = _ := hbx2.cell 4
          simp [eCIT] at x0 x1 x2 x3 x4
          have fa0 := hB.frozen (i * 5)
          have fa1 := hB.frozen (i * 5 + 1)
          have fa2 := hB.frozen (i * 5 + 2)
          have fa3 := hB.frozen (i * 5 + 3)
          have fa4 := hB.frozen (i * 5 + 4)
          have hil : i < cs.length := by rw [HR.out.2.2.2.2]; omega
          have hci := fun (q : Nat) (hq : q < 5) => (by
            have h1 := flat_get eCIT_len cs i hil q hq
            have h2 : i * 5 + q < n * 5 := by have : (i + 1) * 5 ≤ n * 5 := Nat.mul_le_mul_right _ (by omega); omega
            rw [hB.cell, ← Array.getElem?_toList, ← h1, ← HTK.out, List.getElem?_take, if_pos h2] : w2.cell? ⟨g, i * 5 + q, none⟩ = (eCIT cs[i])[q]?)
          obtain ⟨y, hy⟩ : ∃ y, cs[i] = y := ⟨_, rfl⟩
          simp only [hy] at hci
          have a0 : w2.cell? ⟨g, i * 5, none⟩ = _ := hci 0 (by omega)
          have a1 : w2.cell? ⟨g, i * 5 + 1, none⟩ = _ := hci 1 (by omega)
          have a2 : w2.cell? ⟨g, i * 5 + 2, none⟩ = _ := hci 2 (by omega)
          have a3 : w2.cell? ⟨g, i * 5 + 3, none⟩ = _ := hci 3 (by omega)
          have a4 : w2.cell? ⟨g, i * 5 + 4, none⟩ = _ := hci 4 (by omega)
          simp only [eCIT, List.getElem?_cons_succ, List.getElem?_cons_zero] at a0 a1 a2 a3 a4
          clear hci hy
          have HST := Lib.hid (by
            have h1 := own_setCells (eCIT x) (i * 5) w2 _ ho2 (by rw [eCIT_len]; omega)
            have f1 := flat_put eCIT_len cs i hil x 0 (eCIT x) (by rw [eCIT_len]; omega) (by simp [eCIT_len])
            simp only [Nat.add_zero] at f1
            rw [f1] at h1
            exact And.intro h1 (grown_setCells (eCIT x) (i * 5) w2 hg2))
          have hq4 : (i : Int) < n := by omega
          have hq5 : i < n := by omega
          clear hB hg2 ho2 hb2 hbx2
          go_wp2_with fail
          go_roundw
          case rel => exact ⟨i + 1, j + 1, by omega, by omega, by go_num, by go_num, cs.set i x, by rw [List.length_set]; exact HR.out.2.2.2.2, HST.out.1, by rw [HPY.out (by trivial), List.take_succ_eq_append_getElem (by rw [List.length_set]; exact hil), List.getElem_set_self, List.take_set_of_le (Nat.le_refl _)], by rw [List.drop_set_of_lt (by omega), ← List.drop_drop, ← List.drop_drop, HR.out.2.2.1], HST.out.2⟩
          case measure => simp [intOf]; omega
      · obtain rfl : j = n := by omega
        obtain ⟨gp', cap, cur, hA, hbg, hB, hnc, hcm, hcs, htk⟩ := own_form HR.out.1 (by omega)
        obtain ⟨rfl, rfl⟩ : g = gp' ∧ c = cap := by injection hA with e1 e2 e3; exact ⟨congrArg Addr.block (Option.some.inj e1), e3⟩
        obtain ⟨r2, hcl, hr2s, hr2t⟩ := run_clear_rows (P := Tryz.prog) wr 22 70 (.agg #[.string ⟨#[]⟩, .int .i64 0, .int .i64 0, .int .u32 0, .string ⟨#[]⟩]) 5 Tryz.underlying22 Tryz.zeroValue70 rfl (by decide) g (i * 5) (j - i) (c - i) (by omega) cur 70 hB (by rw [hcs, Nat.sub_mul]; have : i * 5 ≤ j * 5 := Nat.mul_le_mul_right _ (by omega); have : j * 5 ≤ c * 5 := Nat.mul_le_mul_right _ (by omega); omega)
        have hfl : l.filter (fun x => !p x) = cs.take i := by rw [HR.out.2.1, List.take_of_length_le (by rw [HNL.out]; omega)]
        have hil : i ≤ cs.length := by rw [HR.out.2.2.2.2]; omega
        have hx2 : r2.toList.take (i * 5) = (l.filter fun x => !p x).flatMap eCIT := by
          rw [hr2t, hfl, flat_take eCIT_len, ← htk, List.take_take, Nat.min_eq_left (Nat.mul_le_mul_right _ (by omega))]
        have hli : (l.filter fun x => !p x).length = i := by rw [hfl, List.length_take]; omega
        have hfin : DelFPostIT base (l.filter fun x => !p x) (some g) w (.returned (.slice (some ⟨g, 0, none⟩) i c)) (wr.setRow g r2) :=
          ⟨_, rfl, by rw [hli]; exact own_mk hbg (hB.setRow _) (by omega) hc2 (by rw [hr2s, hcs]) hx2, grown_trans HR.out.2.2.2.1 (grown_setRow _ _ _), rfl⟩
        have HF := Lib.hid hfin; clear hfin hx2 hli hfl htk hcs hB hA hr2t hr2s hil hcm
        have h1 : (i : Int) ≤ j := by omega
        have h2 : i ≤ j := by omega
        have h3 : ¬ c = i := by omega
        have h4 : (i : Int) ≤ c := by omega
        have h5 : i ≤ c := by omega
        go_wp2_with (at_builtin; refine wpList_clear_rows _ rfl _ 22 rfl _ rfl (hcl _) ?_)
        go_ret
        exact HF.out
  · have hfl : l.filter (fun x => !p x) = l := by
      rw [List.filter_eq_self]
      intro x hx
      rw [hnone x hx]; rfl
    have hpst : DelFPostIT base (l.filter fun x => !p x) (Value.slice A l.length c).ownBlock w (.returned (.slice A l.length c)) w1 := ⟨_, rfl, by rw [hfl]; exact own_kept HO.out hb1, grown_below hb1, rfl⟩
    have HF := Lib.hid hpst; clear hpst
    clear hfl hnone hb1
    go_wp2_with fail
    go_ret
    exact HF.out
end Go.Proofs.YtmpgmgjokliceaaGreatDoor
