/- Several texts, joined for the limit of sixty files; each one opens with its own comment. -/
import Derived.Test.YteofiffbobbdmaaGreatDoorJoin28
import Derived.Test.YteofiffbobbdmaaGreatDoorChecked
import Derived.Test.YteofiffbobbdmaaGreatDoorJoin10
/- slices.IndexFunc and slices.DeleteFunc of a row of detect.Found that the call owns; the predicate is swingle/detect.Of$1. -/
set_option linter.unusedVariables false
set_option linter.unusedSimpArgs false
namespace Go.Proofs.YteofiffbobbdmaaGreatDoor
open Go Go.RowKit
open Sw
def IdxPostFD {α : Type} (p : α → Bool) (l : List α) (w : World) (e : Ending) (w' : World) : Prop :=
  ((∃ i : Nat, ∃ h : i < l.length, (∀ m (h : m < l.length), m < i → p l[m] = false) ∧ p l[i] = true ∧ e = .returned (.int .i64 i)) ∨ ((∀ x ∈ l, p x = false) ∧ e = .returned (.int .i64 (-1)))) ∧ Below w.heap.size w w'
set_option maxRecDepth 100000 in
set_option maxHeartbeats 4000000 in
theorem slIndexFuncFD_any (p : ByteArray × Int → Bool) (r0 : Option Nat) (C : World → Prop) (hC : ∀ W W', C W → W.grownBy W' r0 → C W') (w : World) (A : Option Addr) (n c g : Nat) (l : List (ByteArray × Int)) (hl : l.length = n) (hn : n ≤ 1000000) (hsl : SlOf w 2 eCFD A l) (h0 : C w)
    (hcall : ∀ W x, x ∈ l → C W → Calls Tryz.prog 39 #[.agg (eCFD x).toArray] W fun e w' => e = .returned (.bool (p x)) ∧ Below W.heap.size W w') :
    Calls Tryz.prog 68 #[.slice A n c, .func (.func 39) #[] #[]] w (IdxPostFD p l w) := by
  have HS := Lib.hid hsl; clear hsl
  have HL := Lib.hid hl; clear hl
  have HC := Lib.hid hC; clear hC
  have HCL := Lib.hid hcall; clear hcall
  have H0 := Lib.hid h0; clear h0
  go_enter Tryz.func68, Tryz.ntmps68
  go_wp2_with fail
  go_loopw [8] (fun iv wr => ∃ i : Nat, i ≤ n ∧ iv = .int .i64 i ∧ (∀ m (h : m < l.length), m < i → p l[m] = false) ∧ Below w.heap.size w wr) (fun iv _ => n - (intOf iv).toNat)
  case atStart => exact ⟨0, Nat.zero_le _, rfl, fun m h h' => absurd h' (Nat.not_lt_zero _), Below.refl _ _⟩
  case round =>
    obtain ⟨i, hin, rfl, hno, hbr⟩ := hrel
    have HNO := Lib.hid hno; clear hno
    by_cases hlt : i < n
    · have hiL : i < l.length := by have := HL.out; omega
      obtain ⟨b, off, rfl, hbb, _⟩ := (HS.out.below hbr (Nat.le_refl _)) (by omega)
      have HR := Lib.hid ((HS.out.below hbr (Nat.le_refl _)).range eCFD_len i hiL)
      have HF := Lib.hid (HCL.out wr l[i] (List.getElem_mem hiL) (HC.out w wr H0.out (grown_below hbr)))
      have HYES := Lib.hid (fun (hp : p l[i] = true) w' (hb : Below w.heap.size w w') => (⟨.inl ⟨i, hiL, HNO.out, hp, rfl⟩, hb⟩ : IdxPostFD p l w (.returned (.int .i64 i)) w'))
      have HNO2 := Lib.hid (fun (hp : p l[i] = false) m (hm : m < l.length) (hmi : m < i + 1) => (by
        by_cases e : m = i
        · subst e; exact hp
        · exact HNO.out m hm (by omega) : p l[m] = false))
      have HX := Lib.hid (eCFD_len l[i])
      generalize p l[i] = pv at *
      generalize eCFD l[i] = ev at *
      have q2 : (i : Int) < n := by omega
      cases pv with
      | true =>
        have hyes := HYES.out rfl
        have HYES2 := Lib.hid hyes; clear hyes HYES HNO2
        go_wp2_with (refine wpList_load_mid rfl 55 (.tmp 14) rfl b (off + i * 2) rfl ev _ HR.out Tryz.underlying55 rfl (by rw [HX.out]; kernel_rfl) ?_)
        refine HF.out.mono ?_
        rintro e w2 ⟨rfl, hb2⟩
        have HP := Lib.hid (HYES2.out w2 (hbr.trans (hb2.mono hbr.size)))
        clear HR HF HNO
        go_wp2_with fail
        go_ret
        exact HP.out
      | false =>
        have hno2 := HNO2.out rfl
        have HNO3 := Lib.hid hno2; clear hno2 HYES HNO2
        go_wp2_with (refine wpList_load_mid rfl 55 (.tmp 14) rfl b (off + i * 2) rfl ev _ HR.out Tryz.underlying55 rfl (by rw [HX.out]; kernel_rfl) ?_)
        refine HF.out.mono ?_
        rintro e w2 ⟨rfl, hb2⟩
        have HP := Lib.hid (And.intro HNO3.out (hbr.trans (hb2.mono hbr.size)))
        clear HR HF HNO
        go_wp2_with fail
        go_roundw
        case rel => exact ⟨i + 1, by omega, by go_num, HP.out.1, HP.out.2⟩
        case measure => simp [intOf]; omega
    · obtain rfl : i = n := by omega
      have hpst : IdxPostFD p l w (.returned (.int .i64 (-1))) wr := ⟨.inr ⟨fun x hx => by
        obtain ⟨m, hm, rfl⟩ := List.mem_iff_getElem.1 hx
        exact HNO.out m hm (by have := HL.out; omega), rfl⟩, hbr⟩
      have HP := Lib.hid hpst; clear hpst
      go_wp2_with fail
      go_ret
      exact HP.out
/-- behind the call: the row of those that stay -/
def DelFPostFD (base : Nat) (l : List (ByteArray × Int)) (row : Option Nat) (w : World) (e : Ending) (w' : World) : Prop :=
  ∃ v, e = .returned v ∧ w'.ownsRow base 55 2 v l.length (l.flatMap eCFD) ∧ w.grownBy w' row ∧ v.ownBlock = row
set_option maxRecDepth 100000 in
set_option maxHeartbeats 8000000 in
theorem slDelFuncFD_any (p : ByteArray × Int → Bool) (C : World → Prop) (w : World) (base : Nat) (v : Value) (l : List (ByteArray × Int)) (hown : w.ownsRow base 55 2 v l.length (l.flatMap eCFD)) (hC : ∀ W W', C W → W.grownBy W' v.ownBlock → C W') (gp : Nat) (hn : l.length ≤ 1000000) (h0 : C w)
    (hcall : ∀ W x, x ∈ l → C W → Calls Tryz.prog 39 #[.agg (eCFD x).toArray] W fun e w' => e = .returned (.bool (p x)) ∧ Below W.heap.size W w') :
    Calls Tryz.prog 38 #[v, .func (.func 39) #[] #[]] w (DelFPostFD base (l.filter fun x => !p x) v.ownBlock w) := by
  have hslv : SlV w 2 eCFD v l := SlV.of_own hown eCFD_len (by decide)
  obtain ⟨A, c, rfl, hc1, hc2, hsl⟩ := hslv
  have HIX := Lib.hid (slIndexFuncFD_any p _ C hC w A l.length c gp l rfl hn hsl h0 hcall)
  have HO := Lib.hid hown; clear hown
  have HC := Lib.hid hC; clear hC
  have HCL := Lib.hid hcall; clear hcall
  have H0 := Lib.hid h0; clear h0
  clear hsl
  go_enter Tryz.func38, Tryz.ntmps38
  go_wp2_with fail
  refine HIX.out.mono ?_
  rintro e w1 ⟨⟨i0, hi0, hno, hyes, rfl⟩ | ⟨hnone, rfl⟩, hb1⟩
  · have hne : ((i0 : Int) == -1) = false := by rw [beq_eq_false_iff_ne]; omega
    obtain ⟨g, cap0, cur0, hA, hbg0, hB0, hnc0, hcm0, hcs0, htk0⟩ := own_form HO.out (by omega)
    obtain ⟨rfl, rfl⟩ : A = some ⟨g, 0, none⟩ ∧ c = cap0 := by injection hA with e1 e2 e3; exact ⟨e1, e3⟩
    have HFI := Lib.hid (show (l.take i0).filter (fun x => !p x) = l.take i0 ∧ (l.take (i0 + 1)).filter (fun x => !p x) = l.take i0 from by
      have h1 : (l.take i0).filter (fun x => !p x) = l.take i0 := by
        rw [List.filter_eq_self]
        intro x hx
        obtain ⟨m, hm, rfl⟩ := List.mem_iff_getElem.1 hx
        rw [List.length_take] at hm
        rw [List.getElem_take, hno m (by omega) (by omega)]; rfl
      refine ⟨h1, ?_⟩
      rw [List.take_succ_eq_append_getElem hi0, List.filter_append, h1]
      simp [hyes])
    have HB1 := Lib.hid (And.intro hb1 (own_kept HO.out hb1)); clear hb1 hno hyes hB0 htk0 hcs0
    have hi30 : (i0 : Int) + 1 ≤ 1000001 := by omega
    obtain ⟨n, hnl⟩ : ∃ n, l.length = n := ⟨_, rfl⟩
    rw [hnl] at HO HB1 hi0 hn hc1 hnc0
    unfold maxLen at hc2 hcm0
    rw [hnl]
    have HNL := Lib.hid hnl; clear hnl hA hcm0
    go_wp2_with fail
    go_loopw [5, 6] (fun iv jv wr => ∃ i j : Nat, i < j ∧ j ≤ n ∧ iv = .int .i64 i ∧ jv = .int .i64 j ∧ ∃ cs : List (ByteArray × Int), cs.length = n ∧ wr.ownsRow base 55 2 (.slice (some ⟨g, 0, none⟩) n c) n (cs.flatMap eCFD) ∧ cs.take i = (l.take j).filter (fun x => !p x) ∧ cs.drop j = l.drop j ∧ w.grownBy wr (some g)) (fun _ jv _ => n - (intOf jv).toNat)
    case atStart => exact ⟨i0, i0 + 1, by omega, by omega, rfl, by go_num, l, HNL.out, HB1.out.2, HFI.out.2.symm, rfl, grown_below HB1.out.1⟩
    case round =>
      obtain ⟨i, j, hij, hjn, rfl, rfl, cs, hcl, ho, htk, hdr, hg⟩ := hrel
      have HR := Lib.hid (And.intro ho (And.intro htk (And.intro hdr (And.intro hg hcl)))); clear ho htk hdr hg hcl
      by_cases hlt : j < n
      · obtain ⟨gp', cap, cur, hA, hbg, hB, hnc, hcm, hcs, htk⟩ := own_form HR.out.1 (by omega)
        obtain ⟨rfl, rfl⟩ : g = gp' ∧ c = cap := by injection hA with e1 e2 e3; exact ⟨congrArg Addr.block (Option.some.inj e1), e3⟩
        have hjl : j < cs.length := by rw [HR.out.2.2.2.2]; exact hlt
        have hjL : j < l.length := by rw [HNL.out]; exact hlt
        have hxe : cs[j] = l[j] := by
          have h1 : (cs.drop j)[0]? = (l.drop j)[0]? := by rw [HR.out.2.2.1]
          rw [List.getElem?_drop, List.getElem?_drop, Nat.add_zero, List.getElem?_eq_getElem hjl, List.getElem?_eq_getElem hjL] at h1
          exact Option.some.inj h1
        have hcj := fun (q : Nat) (hq : q < 2) => (by
          have h1 := flat_get eCFD_len cs j hjl q hq
          have h2 : j * 2 + q < n * 2 := by have : (j + 1) * 2 ≤ n * 2 := Nat.mul_le_mul_right _ hlt; omega
          rw [hB.cell, ← Array.getElem?_toList, ← h1, ← htk, List.getElem?_take, if_pos h2] : wr.cell? ⟨g, j * 2 + q, none⟩ = (eCFD cs[j])[q]?)
        simp only [hxe] at hcj
        have hmem : l[j] ∈ l := List.getElem_mem hjL
        obtain ⟨x, hx⟩ : ∃ x, l[j] = x := ⟨_, rfl⟩
        rw [hx] at hmem
        simp only [hx] at hcj
        have HX := Lib.hid hx; clear hx hxe
        have hcw : C wr := HC.out w wr H0.out HR.out.2.2.2.1
        have hcw1 : C (wr.alloc (.cells (eCFD x).toArray 55)) := HC.out _ _ hcw (grown_alloc (grown_refl wr _) _)
        have HF := Lib.hid (HCL.out _ x hmem hcw1)
        have hbx := Blk.new wr 55 (eCFD x).toArray
        have hba := (Below.refl wr.heap.size wr).alloc (Nat.le_refl _) (.cells (eCFD x).toArray 55)
        have HBX := Lib.hid (And.intro hbx hba); clear hbx hba hcw hcw1 hmem
        have b0 : wr.cell? ⟨g, j * 2, none⟩ = _ := hcj 0 (by omega)
        have b1 : wr.cell? ⟨g, j * 2 + 1, none⟩ = _ := hcj 1 (by omega)
        simp only [eCFD, List.getElem?_cons_succ, List.getElem?_cons_zero] at b0 b1
        have hq3 : (j : Int) < n := by omega
        have HB := Lib.hid hB
        have HTK := Lib.hid htk; clear hB htk hcs hcj hA hcm
        have HPX := Lib.hid (fun (hp : p x = true) => (by rw [List.take_succ_eq_append_getElem hjL, HX.out, List.filter_append, HR.out.2.1]; simp [hp] : cs.take i = (l.take (j + 1)).filter (fun x => !p x)))
        have HPY := Lib.hid (fun (hp : p x = false) => (by rw [List.take_succ_eq_append_getElem hjL, HX.out, List.filter_append, ← HR.out.2.1]; simp [hp] : (l.take (j + 1)).filter (fun x => !p x) = cs.take i ++ [x]))
        obtain ⟨pv, hpv⟩ : ∃ pv, p x = pv := ⟨_, rfl⟩
        rw [hpv] at HPX HPY HF
        simp only [eCFD] at HF
        cases pv with
        | true =>
          clear hpv
          go_wp2_with fail
          refine HF.out.mono ?_
          rintro e w2 ⟨rfl, hb2⟩
          have hg2 : w.grownBy w2 (some g) := grown_sub (grown_alloc HR.out.2.2.2.1 _) (grown_below (row := none) hb2) (fun k hk => by cases hk)
          have HZ := Lib.hid (And.intro hg2 (own_kept (own_kept HR.out.1 HBX.out.2) hb2)); clear hg2 hb2
          go_wp2_with fail
          go_roundw
          case rel => exact ⟨i, j + 1, by omega, by omega, rfl, by go_num, cs, HR.out.2.2.2.2, HZ.out.2, HPX.out (by trivial), by rw [← List.drop_drop, ← List.drop_drop, HR.out.2.2.1], HZ.out.1⟩
          case measure => simp [intOf]; omega
        | false =>
          clear hpv
          go_wp2_with fail
          refine HF.out.mono ?_
          rintro e w2 ⟨rfl, hb2⟩
          have hbx2 := (HBX.out.1).below hb2 HBX.out.1.lt
          have hg2 : w.grownBy w2 (some g) := grown_sub (grown_alloc HR.out.2.2.2.1 _) (grown_below (row := none) hb2) (fun k hk => by cases hk)
          have ho2 := own_kept (own_kept HR.out.1 HBX.out.2) hb2
          have hB := (HB.out.below HBX.out.2 HB.out.lt).below hb2 (Nat.lt_of_lt_of_le HB.out.lt HBX.out.2.size)
          have x0 : w2.cell? ⟨wr.heap.size, 0, none⟩ = _ := hbx2.cell 0
          have x1 : w2.cell? ⟨wr.heap.size, 1, none⟩ = _ := hbx2.cell 1
          simp [eCFD] at x0 x1
          have fa0 := hB.frozen (i * 2)
          have fa1 := hB.frozen (i * 2 + 1)
          have hil : i < cs.length := by rw [HR.out.2.2.2.2]; omega
          have hci := fun (q : Nat) (hq : q < 2) => (by
            have h1 := flat_get eCFD_len cs i hil q hq
            have h2 : i * 2 + q < n * 2 := by have : (i + 1) * 2 ≤ n * 2 := Nat.mul_le_mul_right _ (by omega); omega
            rw [hB.cell, ← Array.getElem?_toList, ← h1, ← HTK.out, List.getElem?_take, if_pos h2] : w2.cell? ⟨g, i * 2 + q, none⟩ = (eCFD cs[i])[q]?)
          obtain ⟨y, hy⟩ : ∃ y, cs[i] = y := ⟨_, rfl⟩
          simp only [hy] at hci
          have a0 : w2.cell? ⟨g, i * 2, none⟩ = _ := hci 0 (by omega)
          have a1 : w2.cell? ⟨g, i * 2 + 1, none⟩ = _ := hci 1 (by omega)
          simp only [eCFD, List.getElem?_cons_succ, List.getElem?_cons_zero] at a0 a1
          clear hci hy
          have HST := Lib.hid (by
            have h1 := own_setCells (eCFD x) (i * 2) w2 _ ho2 (by rw [eCFD_len]; omega)
            have f1 := flat_put eCFD_len cs i hil x 0 (eCFD x) (by rw [eCFD_len]; omega) (by simp [eCFD_len])
            simp only [Nat.add_zero] at f1
            rw [f1] at h1
            exact And.intro h1 (grown_setCells (eCFD x) (i * 2) w2 hg2))
          have hq4 : (i : Int) < n := by omega
          have hq5 : i < n := by omega
          clear hB hg2 ho2 hb2 hbx2
          go_wp2_with fail
          go_roundw
          case rel => exact ⟨i + 1, j + 1, by omega, by omega, by go_num, by go_num, cs.set i x, by rw [List.length_set]; exact HR.out.2.2.2.2, HST.out.1, by rw [HPY.out (by trivial), List.take_succ_eq_append_getElem (by rw [List.length_set]; exact hil), List.getElem_set_self, List.take_set_of_le (Nat.le_refl _)], by rw [List.drop_set_of_lt (by omega), ← List.drop_drop, ← List.drop_drop, HR.out.2.2.1], HST.out.2⟩
          case measure => simp [intOf]; omega
      · obtain rfl : j = n := by omega
        obtain ⟨gp', cap, cur, hA, hbg, hB, hnc, hcm, hcs, htk⟩ := own_form HR.out.1 (by omega)
        obtain ⟨rfl, rfl⟩ : g = gp' ∧ c = cap := by injection hA with e1 e2 e3; exact ⟨congrArg Addr.block (Option.some.inj e1), e3⟩
        obtain ⟨r2, hcl, hr2s, hr2t⟩ := run_clear_rows (P := Tryz.prog) wr 38 55 (.agg #[.string ⟨#[]⟩, .int .i64 0]) 2 Tryz.underlying38 Tryz.zeroValue55 rfl (by decide) g (i * 2) (j - i) (c - i) (by omega) cur 55 hB (by rw [hcs, Nat.sub_mul]; have : i * 2 ≤ j * 2 := Nat.mul_le_mul_right _ (by omega); have : j * 2 ≤ c * 2 := Nat.mul_le_mul_right _ (by omega); omega)
        have hfl : l.filter (fun x => !p x) = cs.take i := by rw [HR.out.2.1, List.take_of_length_le (by rw [HNL.out]; omega)]
        have hil : i ≤ cs.length := by rw [HR.out.2.2.2.2]; omega
        have hx2 : r2.toList.take (i * 2) = (l.filter fun x => !p x).flatMap eCFD := by
          rw [hr2t, hfl, flat_take eCFD_len, ← htk, List.take_take, Nat.min_eq_left (Nat.mul_le_mul_right _ (by omega))]
        have hli : (l.filter fun x => !p x).length = i := by rw [hfl, List.length_take]; omega
        have hfin : DelFPostFD base (l.filter fun x => !p x) (some g) w (.returned (.slice (some ⟨g, 0, none⟩) i c)) (wr.setRow g r2) :=
          ⟨_, rfl, by rw [hli]; exact own_mk hbg (hB.setRow _) (by omega) hc2 (by rw [hr2s, hcs]) hx2, grown_trans HR.out.2.2.2.1 (grown_setRow _ _ _), rfl⟩
        have HF := Lib.hid hfin; clear hfin hx2 hli hfl htk hcs hB hA hr2t hr2s hil hcm
        have h1 : (i : Int) ≤ j := by omega
        have h2 : i ≤ j := by omega
        have h3 : ¬ c = i := by omega
        have h4 : (i : Int) ≤ c := by omega
        have h5 : i ≤ c := by omega
        go_wp2_with (at_builtin; refine wpList_clear_rows _ rfl _ 38 rfl _ rfl (hcl _) ?_)
        go_ret
        exact HF.out
  · have hfl : l.filter (fun x => !p x) = l := by
      rw [List.filter_eq_self]
      intro x hx
      rw [hnone x hx]; rfl
    have hpst : DelFPostFD base (l.filter fun x => !p x) (Value.slice A l.length c).ownBlock w (.returned (.slice A l.length c)) w1 := ⟨_, rfl, by rw [hfl]; exact own_kept HO.out hb1, grown_below hb1, rfl⟩
    have HF := Lib.hid hpst; clear hpst
    clear hfl hnone hb1
    go_wp2_with fail
    go_ret
    exact HF.out
end Go.Proofs.YteofiffbobbdmaaGreatDoor
/- detect.Of, Count. -/
set_option linter.unusedVariables false
set_option linter.unusedSimpArgs false
namespace Go.Proofs.YteofiffbobbdmaaGreatDoor
open Go Go.RowKit
open Sw
set_option maxRecDepth 100000 in
theorem detOf1_any (w : World) (x : FdE) :
    Calls Tryz.prog 39 #[.agg (eCFD x).toArray] w fun e w' => e = .returned (.bool (decide (x.2 = 0))) ∧ Below w.heap.size w w' := by
  obtain ⟨p, s⟩ := x
  have hb1 := (Below.refl w.heap.size w).alloc (Nat.le_refl _) (.cells #[.string p, .int .i64 s] 55)
  have HB := Lib.hid hb1; clear hb1
  have hd : (s == 0) = decide (s = 0) := by by_cases h : s = 0 <;> simp [h]
  simp only [eCFD]
  generalize decide (s = 0) = b at *
  go_enter Tryz.func39, Tryz.ntmps39
  go_wp2_with fail
  go_ret
  exact ⟨rfl, HB.out⟩
set_option maxRecDepth 100000 in
set_option maxHeartbeats 4000000 in
theorem detOf_any (w : World) (u1 u2 : Value) (l1 l2 : List MkE) (bt bm : Nat) (xs : List NE) (h1 : SlV w 6 eCM u1 l1) (h2 : SlV w 6 eCM u2 l2) (hl1 : l1.length ≤ 1000) (hl2 : l2.length ≤ 1000) (hp1 : ∀ m ∈ l1, m.1.size ≤ 90000) (hp2 : ∀ m ∈ l2, m.1.size ≤ 90000)
    (hT : TreeAt w bt bm xs) (hxl : xs.length ≤ 1000) (hxp : ∀ e ∈ xs, e.1.size ≤ 90000) (hxd : ∀ e ∈ xs, e.2.data.size ≤ maxLen) :
    Calls Tryz.prog 14 #[.agg #[u1, u2], .pointer (some ⟨bt, 0, none⟩)] w fun e w' => ∃ u, e = .returned u ∧ OwnFd w' w.heap.size u ((allP (l1 ++ l2) xs).filter fun f => !decide (f.2 = 0)) ∧ Below w.heap.size w w' := by
  have hb0 : Below w.heap.size w (w.alloc (.cells #[u1, u2] 24)) := (Below.refl _ w).alloc (Nat.le_refl _) _
  have HA := Lib.hid (detAll_any (w.alloc (.cells #[u1, u2] 24)) u1 u2 l1 l2 bt bm xs (h1.below hb0 (Nat.le_refl _)) (h2.below hb0 (Nat.le_refl _)) hl1 hl2 hp1 hp2 (hT.below hb0) hxl hxp hxd)
  have hal : (allP (l1 ++ l2) xs).length ≤ 3000 := by
    unfold allP
    rw [List.length_map]
    exact Nat.le_trans (pathsS_len _) (by rw [List.length_append, List.length_map, List.length_map, List.length_append]; omega)
  have HB := Lib.hid hb0
  clear h1 h2 hT hb0 hp1 hp2 hxp hxd
  generalize allP (l1 ++ l2) xs = F at *
  go_enter Tryz.func14, Tryz.ntmps14
  go_wp2_with fail
  refine HA.out.mono ?_
  rintro e w1 ⟨u, rfl, ho, hb1⟩
  have HD := Lib.hid (slDelFuncFD_any (fun f => decide (f.2 = 0)) (fun _ => True) w1 _ u F ho (fun _ _ _ _ => trivial) 0 (by omega) trivial (fun W x _ _ => detOf1_any W x))
  have hrow := fun k (hk : u.ownBlock = some k) => (ho.lt k hk).1
  have HR := Lib.hid (And.intro (HB.out.trans (hb1.mono HB.out.size)) hrow)
  clear ho hb1 hrow HA
  go_wp2_with fail
  refine HD.out.mono ?_
  rintro e w2 ⟨v2, rfl, ho2, hg2, hr2⟩
  have hb2 := HR.out.1.grown hg2 HR.out.1.size (fun k hk => Nat.le_trans HB.out.size (HR.out.2 k hk))
  have HF := Lib.hid (And.intro (own_wide ho2 HB.out.size : w2.ownsRow w.heap.size _ _ _ _ _) hb2)
  clear ho2 hg2 hr2 hb2
  go_wp2_with fail
  go_ret
  exact ⟨_, rfl, HF.out.1, HF.out.2⟩
end Go.Proofs.YteofiffbobbdmaaGreatDoor
/- detect.Count. -/
set_option linter.unusedVariables false
set_option linter.unusedSimpArgs false
namespace Sw
/-- how many of a row are in a state -/
def cntF (k : Int) (l : List (ByteArray × Int)) : Int := ((l.filter fun f => decide (f.2 = k)).length : Nat)
theorem cntF_step (k : Int) (l : List (ByteArray × Int)) (i : Nat) (h : i < l.length) : cntF k (l.take (i + 1)) = cntF k (l.take i) + if l[i].2 = k then 1 else 0 := by
  unfold cntF
  rw [List.take_succ_eq_append_getElem h, List.filter_append, List.length_append]
  by_cases hk : l[i].2 = k
  · rw [if_pos hk, List.filter_cons_of_pos (by simpa using hk)]; simp
  · rw [if_neg hk, List.filter_cons_of_neg (by simpa using hk)]; simp
theorem cntF_le (k : Int) (l : List (ByteArray × Int)) : 0 ≤ cntF k l ∧ cntF k l ≤ l.length := by
  unfold cntF
  have := List.length_filter_le (fun f : ByteArray × Int => decide (f.2 = k)) l
  omega
end Sw
namespace Go.Proofs.YteofiffbobbdmaaGreatDoor
open Go Go.RowKit
open Sw
set_option maxRecDepth 100000 in
set_option maxHeartbeats 8000000 in
theorem detCount_any (w : World) (v : Value) (l : List FdE) (h : SlV w 2 eCFD v l) (hl : l.length ≤ 100000) (hs : ∀ f ∈ l, f.2 = 0 ∨ f.2 = 1 ∨ f.2 = 2 ∨ f.2 = 3) :
    Calls Tryz.prog 15 #[v] w fun e w' => e = .returned (.agg #[.int .i64 (cntF 0 l), .int .i64 (cntF 1 l), .int .i64 (cntF 2 l), .int .i64 (cntF 3 l)]) ∧ Below w.heap.size w w' := by
  obtain ⟨A, k, rfl, hk1, hk2, hsl⟩ := h
  unfold maxLen at hk2
  have hb0 : Below w.heap.size w (w.alloc (.cells #[.int .i64 0, .int .i64 0, .int .i64 0, .int .i64 0] 34)) := (Below.refl _ w).alloc (Nat.le_refl _) _
  have H0 := Lib.hid (And.intro (Blk.new w 34 #[.int .i64 0, .int .i64 0, .int .i64 0, .int .i64 0]) (And.intro hb0 (And.intro hsl hs)))
  obtain ⟨n, hn⟩ : ∃ n, l.length = n := ⟨_, rfl⟩
  rw [hn] at hk1 hl ⊢
  have HN := Lib.hid hn
  obtain ⟨a0, hz0⟩ : ∃ z, cntF 0 l = z := ⟨_, rfl⟩
  obtain ⟨a1, hz1⟩ : ∃ z, cntF 1 l = z := ⟨_, rfl⟩
  obtain ⟨a2, hz2⟩ : ∃ z, cntF 2 l = z := ⟨_, rfl⟩
  obtain ⟨a3, hz3⟩ : ∃ z, cntF 3 l = z := ⟨_, rfl⟩
  rw [hz0, hz1, hz2, hz3]
  have HZ := Lib.hid (And.intro hz0 (And.intro hz1 (And.intro hz2 hz3)))
  clear hsl hs hb0 hn hz0 hz1 hz2 hz3
  go_enter Tryz.func15, Tryz.ntmps15
  go_wp2_with fail
  go_loopw [7] (fun iv wr => ∃ i : Nat, iv = .int .i64 i ∧ i ≤ n ∧ Blk wr w.heap.size 34 #[.int .i64 (cntF 0 (l.take i)), .int .i64 (cntF 1 (l.take i)), .int .i64 (cntF 2 (l.take i)), .int .i64 (cntF 3 (l.take i))] ∧ Below w.heap.size w wr) (fun iv _ => n - (intOf iv).toNat)
  case atStart => exact ⟨0, rfl, Nat.zero_le _, H0.out.1, H0.out.2.1⟩
  case round =>
    obtain ⟨i, rfl, hi, hB, hb⟩ := hrel
    by_cases hlt : i < n
    · have hiL : i < l.length := by have := HN.out; omega
      obtain ⟨b, off, rfl, hbb, hcs⟩ := (H0.out.2.2.1.below hb (Nat.le_refl _)) (by omega)
      have c0 := hcs i hiL 0 (by omega)
      have c1 := hcs i hiL 1 (by omega)
      simp only [eCFD, List.getElem?_cons_succ, List.getElem?_cons_zero, Nat.add_zero] at c0 c1
      clear hcs
      have hi1 : (i : Int) < n := by omega
      have hsx := H0.out.2.2.2 _ (List.getElem_mem hiL)
      have e0 := cntF_step 0 l i hiL
      have e1 := cntF_step 1 l i hiL
      have e2 := cntF_step 2 l i hiL
      have e3 := cntF_step 3 l i hiL
      have b0 := cntF_le 0 (l.take i)
      have b1 := cntF_le 1 (l.take i)
      have b2 := cntF_le 2 (l.take i)
      have b3 := cntF_le 3 (l.take i)
      rw [List.length_take] at b0 b1 b2 b3
      obtain ⟨⟨q, s⟩, hx⟩ : ∃ x, l[i] = x := ⟨_, rfl⟩
      simp only [hx] at c0 c1 hsx e0 e1 e2 e3
      clear hx
      generalize cntF 0 (l.take i) = a0 at *
      generalize cntF 1 (l.take i) = a1 at *
      generalize cntF 2 (l.take i) = a2 at *
      generalize cntF 3 (l.take i) = a3 at *
      have hba := (Below.refl wr.heap.size wr).alloc (Nat.le_refl _) (.cells #[.string q, .int .i64 s] 55)
      have HR := Lib.hid (And.intro (hB.below hba hB.lt) (hb.trans (hba.mono hb.size)))
      have x0 := HR.out.1.cell 0
      have x1 := HR.out.1.cell 1
      have x2 := HR.out.1.cell 2
      have x3 := HR.out.1.cell 3
      simp at x0 x1 x2 x3
      have f0 := HR.out.1.frozen 0
      have f1 := HR.out.1.frozen 1
      have f2 := HR.out.1.frozen 2
      have f3 := HR.out.1.frozen 3
      clear hba hB hb
      rcases hsx with rfl | rfl | rfl | rfl
      · simp only [if_pos, reduceIte, Int.reduceEq, Int.add_zero] at e0 e1 e2 e3
        have hwr : IntKind.i64.wrap (a0 + 1) = a0 + 1 := IntWalk.i64_in _ (by omega)
        have HE := Lib.hid (And.intro e0 (And.intro e1 (And.intro e2 e3)))
        clear e0 e1 e2 e3
        go_wp2_with fail
        go_roundw
        case rel =>
          refine ⟨i + 1, by go_num, by omega, ?_, HR.out.2.setCell (p := ⟨w.heap.size, 0, none⟩) (Nat.le_refl _) _⟩
          rw [HE.out.1, HE.out.2.1, HE.out.2.2.1, HE.out.2.2.2]
          exact HR.out.1.put 0 (.int .i64 (a0 + 1))
        case measure => simp [intOf]; omega
      · simp only [if_pos, reduceIte, Int.reduceEq, Int.add_zero] at e0 e1 e2 e3
        have hwr : IntKind.i64.wrap (a1 + 1) = a1 + 1 := IntWalk.i64_in _ (by omega)
        have HE := Lib.hid (And.intro e0 (And.intro e1 (And.intro e2 e3)))
        clear e0 e1 e2 e3
        go_wp2_with fail
        go_roundw
        case rel =>
          refine ⟨i + 1, by go_num, by omega, ?_, HR.out.2.setCell (p := ⟨w.heap.size, 1, none⟩) (Nat.le_refl _) _⟩
          rw [HE.out.1, HE.out.2.1, HE.out.2.2.1, HE.out.2.2.2]
          exact HR.out.1.put 1 (.int .i64 (a1 + 1))
        case measure => simp [intOf]; omega
      · simp only [if_pos, reduceIte, Int.reduceEq, Int.add_zero] at e0 e1 e2 e3
        have hwr : IntKind.i64.wrap (a2 + 1) = a2 + 1 := IntWalk.i64_in _ (by omega)
        have HE := Lib.hid (And.intro e0 (And.intro e1 (And.intro e2 e3)))
        clear e0 e1 e2 e3
        go_wp2_with fail
        go_roundw
        case rel =>
          refine ⟨i + 1, by go_num, by omega, ?_, HR.out.2.setCell (p := ⟨w.heap.size, 2, none⟩) (Nat.le_refl _) _⟩
          rw [HE.out.1, HE.out.2.1, HE.out.2.2.1, HE.out.2.2.2]
          exact HR.out.1.put 2 (.int .i64 (a2 + 1))
        case measure => simp [intOf]; omega
      · simp only [if_pos, reduceIte, Int.reduceEq, Int.add_zero] at e0 e1 e2 e3
        have hwr : IntKind.i64.wrap (a3 + 1) = a3 + 1 := IntWalk.i64_in _ (by omega)
        have HE := Lib.hid (And.intro e0 (And.intro e1 (And.intro e2 e3)))
        clear e0 e1 e2 e3
        go_wp2_with fail
        go_roundw
        case rel =>
          refine ⟨i + 1, by go_num, by omega, ?_, HR.out.2.setCell (p := ⟨w.heap.size, 3, none⟩) (Nat.le_refl _) _⟩
          rw [HE.out.1, HE.out.2.1, HE.out.2.2.1, HE.out.2.2.2]
          exact HR.out.1.put 3 (.int .i64 (a3 + 1))
        case measure => simp [intOf]; omega
    · obtain rfl : i = n := by omega
      have hf : l.take i = l := List.take_of_length_le (by have := HN.out; omega)
      rw [hf, HZ.out.1, HZ.out.2.1, HZ.out.2.2.1, HZ.out.2.2.2] at hB
      have x0 := hB.cell 0
      have x1 := hB.cell 1
      have x2 := hB.cell 2
      have x3 := hB.cell 3
      simp at x0 x1 x2 x3
      have f0 := hB.frozen 0
      have f1 := hB.frozen 1
      have f2 := hB.frozen 2
      have f3 := hB.frozen 3
      have HR := Lib.hid (And.intro hB hb)
      clear hB hb hf
      go_wp2_with fail
      refine bodyPost_ret (v := .agg #[.int .i64 a0, .int .i64 a1, .int .i64 a2, .int .i64 a3]) (results_cell_row rfl _ _ w.heap.size 34 #[.int .i64 a0, .int .i64 a1, .int .i64 a2, .int .i64 a3] (0, 0) _ rfl ((((HR.out.1.put 0 (.int .i64 a0)).put 1 (.int .i64 a1)).put 2 (.int .i64 a2)).put 3 (.int .i64 a3)) Tryz.underlying34 rfl (by kernel_rfl)) rfl ⟨rfl, ?_⟩
      exact (((HR.out.2.setCell (p := ⟨w.heap.size, 0, none⟩) (Nat.le_refl _) (.int .i64 a0)).setCell (p := ⟨w.heap.size, 1, none⟩) (Nat.le_refl _) (.int .i64 a1)).setCell (p := ⟨w.heap.size, 2, none⟩) (Nat.le_refl _) (.int .i64 a2)).setCell (p := ⟨w.heap.size, 3, none⟩) (Nat.le_refl _) (.int .i64 a3)
end Go.Proofs.YteofiffbobbdmaaGreatDoor
/- slices.Clone of a row of sorted.entry[string,swingle/api.Print]: the same elements, in memory of the call's own. -/
set_option linter.unusedVariables false
set_option linter.unusedSimpArgs false
namespace Go.Proofs.YteofiffbobbdmaaGreatDoor
open Go Go.RowKit
open Sw
theorem infoESP : (Tryz.prog.info? 177).map (fun i => (i.zero, i.size, i.bytes)) = some (some (.agg #[.string ⟨#[]⟩, .int .i64 0, .int .i64 0, .int .u32 0, .int .i64 0, .int .u32 0]), 6, 56) := by kernel_rfl
set_option maxRecDepth 100000 in
set_option maxHeartbeats 2000000 in
theorem slCloneSP_any {α : Type} (E : α → List Value) (hE : ∀ x, (E x).length = 6) (hE1 : ∀ x, ∀ u ∈ E x, u.oneCell' = true) (w : World) (v : Value) (l : List α) (h : SlV w 6 E v l) (hl : l.length ≤ 1000000) :
    Calls Tryz.prog 116 #[v] w fun e w' => ∃ v', e = .returned v' ∧ w'.ownsRow w.heap.size 177 6 v' l.length (l.flatMap E) ∧ Below w.heap.size w w' := by
  obtain ⟨A, c, rfl, hc1, hc2, hsl⟩ := h
  cases A with
  | none =>
    have h0 : l = [] := by
      cases l with
      | nil => rfl
      | cons a l => obtain ⟨b, off, h, _⟩ := hsl (by simp); cases h
    subst h0
    have hno := World.ownsRow_nil w w.heap.size 177 6
    have HN := Lib.hid hno; clear hno hsl
    have hnl : ∀ W n c, (binOp .eql 143 (.slice none n c) (.slice none 0 0)).run Tryz.prog W = .ok (.bool true) W := fun W n c => Lib.run_eql_slice_nil W 143 177 none n c 0 0 Tryz.underlying143
    go_enter Tryz.func116, Tryz.ntmps116
    go_wp2_with fail
    go_ret
    exact ⟨_, rfl, HN.out, Below.refl _ _⟩
  | some a =>
    obtain ⟨i0, hi, hz0, hz1, hz2⟩ := info_parts infoESP
    have hlen : (l.flatMap E).length = l.length * 6 := flat_len hE l
    have hone : ∀ u ∈ l.flatMap E, u.oneCell' = true := fun u hu => by
      rw [List.mem_flatMap] at hu
      obtain ⟨x, _, hx⟩ := hu
      exact hE1 x u hx
    have hnews : ∀ j u, (l.flatMap E)[j]? = some u → w.cell? (a.add j) = some u := fun j u hj => by
      have hjl := (List.getElem?_eq_some_iff.1 hj).1
      rw [hlen] at hjl
      obtain ⟨b, off, hA, _, hcs⟩ := hsl (by omega)
      rw [Option.some.inj hA, add_mk]
      have hq : j / 6 < l.length := by omega
      have hr : j % 6 < 6 := Nat.mod_lt _ (by omega)
      have hd : j / 6 * 6 + j % 6 = j := by omega
      have h1 := flat_get hE l (j / 6) hq (j % 6) hr
      rw [hd, hj] at h1
      have h2 := hcs (j / 6) hq (j % 6) hr
      rw [Nat.add_assoc, hd] at h2
      rw [h2, ← h1]
    have hnews1 : ∀ (o : Obj) j u, (l.flatMap E)[j]? = some u → (w.alloc o).cell? (a.add j) = some u := fun o j u hj => by
      have h1 := hnews j u hj
      have hlt := World.block_lt_of_cell? w _ h1
      rw [← h1]
      exact ((Below.refl w.heap.size w).alloc (Nat.le_refl _) o).cell hlt
    have hown := World.ownsRow_made (e := 177) (size := 6) (base := w.heap.size) w #[] 0 (Nat.le_refl _) (by decide) (by simp)
    have hbe : Below w.heap.size w (w.alloc (.cells #[] 177)) := (Below.refl _ _).alloc (Nat.le_refl _) _
    have HH := Lib.hid (And.intro hown hbe); clear hown hbe
    have HL := Lib.hid hlen; clear hlen
    have HO := Lib.hid hone; clear hone
    have HW := Lib.hid hnews1; clear hnews1 hnews
    have HI := Lib.hid (And.intro hi (And.intro hz0 (And.intro hz1 hz2))); clear hi hz0 hz1 hz2
    generalize l.flatMap E = xs at *
    generalize l.length = n at *
    have hnl : ∀ W n c, (binOp .eql 143 (.slice (some a) n c) (.slice none 0 0)).run Tryz.prog W = .ok (.bool false) W := fun W n c => Lib.run_eql_slice_nil W 143 177 (some a) n c 0 0 Tryz.underlying143
    go_enter Tryz.func116, Tryz.ntmps116
    go_wp2_with (at_builtin; refine wpList_append_own _ rfl _ _ 143 rfl w.heap.size 177 i0 (.agg #[.string ⟨#[]⟩, .int .i64 0, .int .i64 0, .int .u32 0, .int .i64 0, .int .u32 0]) 6 56 Tryz.underlying143 HI.out.1 HI.out.2.1 HI.out.2.2.1 HI.out.2.2.2 rfl (by decide) _ _ _ rfl HH.out.1 a n c xs rfl HL.out (HW.out _) HO.out (by unfold maxLen; omega) (by omega) (by simp) ?_; intro v' w1 hown1 hgrow1 hnil1)
    have HP := Lib.hid (And.intro hown1 hgrow1); clear hown1 hgrow1 hnil1
    go_wp2_with fail
    go_ret
    refine ⟨_, rfl, ?_, HH.out.2.grown HP.out.2 (by simp) (fun k hk => ?_)⟩
    · have := HP.out.1
      simpa using this
    · have : w.heap.size = k := Option.some.inj hk
      omega
end Go.Proofs.YteofiffbobbdmaaGreatDoor
/- slices.BinarySearchFunc over a row of sorted.entry[string,swingle/api.Print], as sorted.Map's find calls it. -/
set_option linter.unusedVariables false
set_option linter.unusedSimpArgs false
namespace Go.Proofs.YteofiffbobbdmaaGreatDoor
open Go Go.RowKit
open Sw
def SrchPostSP {α : Type} (f : α → Int) (l : List α) (w : World) (e : Ending) (w' : World) : Prop :=
  ∃ i : Nat, i ≤ l.length ∧ (∀ m (h : m < l.length), m < i → f l[m] < 0) ∧ (∀ m (h : m < l.length), i ≤ m → 0 ≤ f l[m]) ∧
    e = .returned (.tuple #[.int .i64 i, .bool (if h : i < l.length then decide (f l[i] = 0) else false)]) ∧ Below w.heap.size w w'
set_option maxRecDepth 100000 in
set_option maxHeartbeats 4000000 in
theorem slSearchSP_any {α : Type} (E : α → List Value) (hE : ∀ x, (E x).length = 6) (f : α → Int) (w : World) (A : Option Addr) (n c g : Nat) (l : List α) (kv : Value) (hl : l.length = n) (hn : n ≤ 1000000) (hsl : SlOf w 6 E A l)
    (hmono : ∀ a b (ha : a < l.length) (hb : b < l.length), a ≤ b → f l[b] < 0 → f l[a] < 0)
    (hcall : ∀ W x, x ∈ l → Below w.heap.size w W → Calls Tryz.prog 153 #[.agg (E x).toArray, kv, .pointer (some ⟨g, 0, none⟩)] W fun e w' => e = .returned (.int .i64 (f x)) ∧ Below W.heap.size W w') :
    Calls Tryz.prog 152 #[.slice A n c, kv, .func (.func 153) #[] #[.pointer (some ⟨g, 0, none⟩)]] w (SrchPostSP f l w) := by
  have HS := Lib.hid hsl; clear hsl
  have HL := Lib.hid hl; clear hl
  have HM := Lib.hid hmono; clear hmono
  have HC := Lib.hid hcall; clear hcall
  have HE := Lib.hid hE; clear hE
  go_enter Tryz.func152, Tryz.ntmps152
  go_wp2_with fail
  go_loopw [9, 10] (fun iv jv wr => ∃ i j : Nat, i ≤ j ∧ j ≤ n ∧ iv = .int .i64 i ∧ jv = .int .i64 j ∧ (∀ m (h : m < l.length), m < i → f l[m] < 0) ∧ (∀ m (h : m < l.length), j ≤ m → 0 ≤ f l[m]) ∧ Below w.heap.size w wr) (fun iv jv _ => (intOf jv - intOf iv).toNat)
  case atStart => exact ⟨0, n, Nat.zero_le _, Nat.le_refl _, rfl, rfl, fun m h h' => by omega, fun m h h' => by have := HL.out; omega, Below.refl _ _⟩
  case round =>
    obtain ⟨i, j, hij, hjn, rfl, rfl, hlo, hhi, hbr⟩ := hrel
    have HLO := Lib.hid hlo; clear hlo
    have HHI := Lib.hid hhi; clear hhi
    by_cases hlt : i < j
    · have hjL : j ≤ l.length := by have := HL.out; omega
      obtain ⟨h, hh⟩ : ∃ h : Nat, ((i : Int) + j) / 2 = h := ⟨(i + j) / 2, by omega⟩
      have hih : i ≤ h := by omega
      have hhj : h < j := by omega
      have hhL : h < l.length := by omega
      obtain ⟨b, off, rfl, hbb, _⟩ := (HS.out.below hbr (Nat.le_refl _)) (by omega)
      have HR := Lib.hid ((HS.out.below hbr (Nat.le_refl _)).range HE.out h hhL)
      have HF := Lib.hid (HC.out wr l[h] (List.getElem_mem hhL) hbr)
      have HX := Lib.hid (HE.out l[h])
      have HLO2 := Lib.hid (fun (hf : f l[h] < 0) m (hm : m < l.length) (hmh : m < h + 1) => (HM.out m h hm hhL (by omega) hf : f l[m] < 0))
      have HHI2 := Lib.hid (fun (hf : ¬ f l[h] < 0) m (hm : m < l.length) (hmh : h ≤ m) => (by
        refine Int.not_lt.1 fun hx => hf ?_
        exact HM.out h m hhL hm hmh hx : 0 ≤ f l[m]))
      generalize f l[h] = fv at *
      generalize E l[h] = ev at *
      have q1 : (i : Int) + j ≤ 2000000 := by omega
      have q2 : (h : Int) < n := by omega
      go_wp2_with (refine wpList_load_mid rfl 177 (.tmp 27) rfl b (off + h * 6) rfl ev _ HR.out Tryz.underlying177 rfl (by rw [HX.out]; kernel_rfl) ?_)
      refine HF.out.mono ?_
      rintro e w2 ⟨rfl, hb2⟩
      have hb3 := hbr.trans (hb2.mono hbr.size)
      clear HR HF
      by_cases hf : fv < 0
      · have H1 := Lib.hid (HLO2.out hf)
        go_wp2_with fail
        go_roundw
        case rel => exact ⟨h + 1, j, by omega, hjn, by go_num, rfl, H1.out, HHI.out, hb3⟩
        case measure => simp [intOf]; omega
      · have H1 := Lib.hid (HHI2.out (by omega))
        go_wp2_with fail
        go_roundw
        case rel => exact ⟨i, h, hih, by omega, rfl, by go_num, HLO.out, H1.out, hb3⟩
        case measure => simp [intOf]; omega
    · obtain rfl : i = j := by omega
      clear hij hlt
      by_cases hin : i < n
      · have hiL : i < l.length := by have := HL.out; omega
        obtain ⟨b, off, rfl, hbb, _⟩ := (HS.out.below hbr (Nat.le_refl _)) (by omega)
        have HR := Lib.hid ((HS.out.below hbr (Nat.le_refl _)).range HE.out i hiL)
        have HF := Lib.hid (HC.out wr l[i] (List.getElem_mem hiL) hbr)
        have HX := Lib.hid (HE.out l[i])
        have HP := Lib.hid (fun w' (hb : Below w.heap.size w w') => (⟨i, by omega, HLO.out, HHI.out, by rw [dif_pos hiL], hb⟩ : SrchPostSP f l w (.returned (.tuple #[.int .i64 i, .bool (decide (f l[i] = 0))])) w'))
        generalize f l[i] = fv at *
        generalize E l[i] = ev at *
        have q2 : (i : Int) < n := by omega
        go_wp2_with (refine wpList_load_row_g rfl 177 (.tmp 43) rfl b (off + i * 6) rfl ev _ HR.out Tryz.underlying177 rfl (by rw [HX.out]; kernel_rfl) ?_)
        refine HF.out.mono ?_
        rintro e w2 ⟨rfl, hb2⟩
        have hb3 := hbr.trans (hb2.mono hbr.size)
        have HQ := Lib.hid (HP.out w2 hb3)
        have hbq : (fv == 0) = decide (fv = 0) := rfl
        go_wp2_with fail
        go_ret2
        exact HQ.out
      · obtain rfl : i = n := by omega
        have HP := Lib.hid (fun w' (hb : Below w.heap.size w w') => (⟨i, by have := HL.out; omega, HLO.out, HHI.out, by rw [dif_neg (by have := HL.out; omega)], hb⟩ : SrchPostSP f l w (.returned (.tuple #[.int .i64 i, .bool false])) w'))
        go_wp2_with fail
        go_ret2
        exact HP.out _ hbr
end Go.Proofs.YteofiffbobbdmaaGreatDoor
