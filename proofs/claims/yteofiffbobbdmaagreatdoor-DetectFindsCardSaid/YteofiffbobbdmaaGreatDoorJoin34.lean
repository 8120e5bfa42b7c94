/- Several texts, joined for the limit of sixty files; each one opens with its own comment. -/
import Derived.Test.YteofiffbobbdmaaGreatDoorJoin33
import Derived.Test.YteofiffbobbdmaaGreatDoorJoin24
/- slices.IndexFunc and slices.DeleteFunc of a row of detect.Found that the call owns; the predicate is swingle/detect.Of$1. -/
set_option linter.unusedVariables false
set_option linter.unusedSimpArgs false
namespace Go.Proofs.YteofiffbobbdmaaGreatDoor
open Go Go.RowKit
open Sw
def IdxPostFD {α : Type} (p : α → Bool) (l : List α) (w : World) (e : Ending) (w' : World) : Prop :=
  ((∃ i : Nat, ∃ h : i < l.length, (∀ m (h : m < l.length), m < i → p l[m] = false) ∧ p l[i] = true ∧ e = .returned (.int .i64 i)) ∨ ((∀ x ∈ l, p x = false) ∧ e = .returned (.int .i64 (-1)))) ∧ Below w.heap.size w w'
set_option maxRecDepth 100000 in
set_option maxHeartbeats 4000000 in
theorem slIndexFuncFD_any (p : ByteArray × Int → Bool) (r0 : Option Nat) (C : World → Prop) (hC : ∀ W W', C W → W.grownBy W' r0 → C W') (w : World) (A : Option Addr) (n c g : Nat) (l : List (ByteArray × Int)) (hl : l.length = n) (hn : n ≤ 1000000) (hsl : SlOf w 2 eCFD A l) (h0 : C w)
    (hcall : ∀ W x, x ∈ l → C W → Calls Tryz.prog 39 #[.agg (eCFD x).toArray] W fun e w' => e = .returned (.bool (p x)) ∧ Below W.heap.size W w') :
    Calls Tryz.prog 68 #[.slice A n c, .func (.func 39) #[] #[]] w (IdxPostFD p l w) := by
  have HS := Lib.hid hsl; clear hsl
  have HL := Lib.hid hl; clear hl
  have HC := Lib.hid hC; clear hC
  have HCL := Lib.hid hcall; clear hcall
  have H0 := Lib.hid h0; clear h0
  go_enter Tryz.func68, Tryz.ntmps68
  go_wp2_with fail
  go_loopw [8] (fun iv wr => ∃ i : Nat, i ≤ n ∧ iv = .int .i64 i ∧ (∀ m (h : m < l.length), m < i → p l[m] = false) ∧ Below w.heap.size w wr) (fun iv _ => n - (intOf iv).toNat)
  case atStart => exact ⟨0, Nat.zero_le _, rfl, fun m h h' => absurd h' (Nat.not_lt_zero _), Below.refl _ _⟩
  case round =>
    obtain ⟨i, hin, rfl, hno, hbr⟩ := hrel
    have HNO := Lib.hid hno; clear hno
    by_cases hlt : i < n
    · have hiL : i < l.length := by have := HL.out; omega
      obtain ⟨b, off, rfl, hbb, _⟩ := (HS.out.below hbr (Nat.le_refl _)) (by omega)
      have HR := Lib.hid ((HS.out.below hbr (Nat.le_refl _)).range eCFD_len i hiL)
      have HF := Lib.hid (HCL.out wr l[i] (List.getElem_mem hiL) (HC.out w wr H0.out (grown_below hbr)))
      have HYES := Lib.hid (fun (hp : p l[i] = true) w' (hb : Below w.heap.size w w') => (⟨.inl ⟨i, hiL, HNO.out, hp, rfl⟩, hb⟩ : IdxPostFD p l w (.returned (.int .i64 i)) w'))
      have HNO2 := Lib.hid (fun (hp : p l[i] = false) m (hm : m < l.length) (hmi : m < i + 1) => (by
        by_cases e : m = i
        · subst e; exact hp
        · exact HNO.out m hm (by omega) : p l[m] = false))
      have HX := Lib.hid (eCFD_len l[i])
      generalize p l[i] = pv at *
      generalize eCFD l[i] = ev at *
      have q2 : (i : Int) < n := by omega
      cases pv with
      | true =>
        have hyes := HYES.out rfl
        have HYES2 := Lib.hid hyes; clear hyes HYES HNO2
        go_wp2_with (refine wpList_load_mid rfl 55 (.tmp 14) rfl b (off + i * 2) rfl ev _ HR.out Tryz.underlying55 rfl (by rw [HX.out]; kernel_rfl) ?_)
        refine HF.out.mono ?_
        rintro e w2 ⟨rfl, hb2⟩
        have HP := Lib.hid (HYES2.out w2 (hbr.trans (hb2.mono hbr.size)))
        clear HR HF HNO
        go_wp2_with fail
        go_ret
        exact HP.out
      | false =>
        have hno2 := HNO2.out rfl
        have HNO3 := Lib.hid hno2; clear hno2 HYES HNO2
        go_wp2_with (refine wpList_load_mid rfl 55 (.tmp 14) rfl b (off + i * 2) rfl ev _ HR.out Tryz.underlying55 rfl (by rw [HX.out]; kernel_rfl) ?_)
        refine HF.out.mono ?_
        rintro e w2 ⟨rfl, hb2⟩
        have HP := Lib.hid (And.intro HNO3.out (hbr.trans (hb2.mono hbr.size)))
        clear HR HF HNO
        go_wp2_with fail
        go_roundw
        case rel => exact ⟨i + 1, by omega, by go_num, HP.out.1, HP.out.2⟩
        case measure => simp [intOf]; omega
    · obtain rfl : i = n := by omega
      have hpst : IdxPostFD p l w (.returned (.int .i64 (-1))) wr := ⟨.inr ⟨fun x hx => by
        obtain ⟨m, hm, rfl⟩ := List.mem_iff_getElem.1 hx
        exact HNO.out m hm (by have := HL.out; omega), rfl⟩, hbr⟩
      have HP := Lib.hid hpst; clear hpst
      go_wp2_with fail
      go_ret
      exact HP.out
/-- behind the call: the row of those that stay -/
def DelFPostFD (base : Nat) (l : List (ByteArray × Int)) (row : Option Nat) (w : World) (e : Ending) (w' : World) : Prop :=
  ∃ v, e = .returned v ∧ w'.ownsRow base 55 2 v l.length (l.flatMap eCFD) ∧ w.grownBy w' row ∧ v.ownBlock = row
set_option maxRecDepth 100000 in
set_option maxHeartbeats 8000000 in
theorem slDelFuncFD_any (p : ByteArray × Int → Bool) (C : World → Prop) (w : World) (base : Nat) (v : Value) (l : List (ByteArray × Int)) (hown : w.ownsRow base 55 2 v l.length (l.flatMap eCFD)) (hC : ∀ W W', C W → W.grownBy W' v.ownBlock → C W') (gp : Nat) (hn : l.length ≤ 1000000) (h0 : C w)
    (hcall : ∀ W x, x ∈ l → C W → Calls Tryz.prog 39 #[.agg (eCFD x).toArray] W fun e w' => e = .returned (.bool (p x)) ∧ Below W.heap.size W w') :
    Calls Tryz.prog 38 #[v, .func (.func 39) #[] #[]] w (DelFPostFD base (l.filter fun x => !p x) v.ownBlock w) := by
  have hslv : SlV w 2 eCFD v l := SlV.of_own hown eCFD_len (by decide)
  obtain ⟨A, c, rfl, hc1, hc2, hsl⟩ := hslv
  have HIX := Lib.hid (slIndexFuncFD_any p _ C hC w A l.length c gp l rfl hn hsl h0 hcall)
  have HO := Lib.hid hown; clear hown
  have HC := Lib.hid hC; clear hC
  have HCL := Lib.hid hcall; clear hcall
  have H0 := Lib.hid h0; clear h0
  clear hsl
  go_enter Tryz.func38, Tryz.ntmps38
  go_wp2_with fail
  refine HIX.out.mono ?_
  rintro e w1 ⟨⟨i0, hi0, hno, hyes, rfl⟩ | ⟨hnone, rfl⟩, hb1⟩
  · have hne : ((i0 : Int) == -1) = false := by rw [beq_eq_false_iff_ne]; omega
    obtain ⟨g, cap0, cur0, hA, hbg0, hB0, hnc0, hcm0, hcs0, htk0⟩ := own_form HO.out (by omega)
    obtain ⟨rfl, rfl⟩ : A = some ⟨g, 0, none⟩ ∧ c = cap0 := by injection hA with e1 e2 e3; exact ⟨e1, e3⟩
    have HFI := Lib.hid (show (l.take i0).filter (fun x => !p x) = l.take i0 ∧ (l.take (i0 + 1)).filter (fun x => !p x) = l.take i0 from by
      have h1 : (l.take i0).filter (fun x => !p x) = l.take i0 := by
        rw [List.filter_eq_self]
        intro x hx
        obtain ⟨m, hm, rfl⟩ := List.mem_iff_getElem.1 hx
        rw [List.length_take] at hm
        rw [List.getElem_take, hno m (by omega) (by omega)]; rfl
      refine ⟨h1, ?_⟩
      rw [List.take_succ_eq_append_getElem hi0, List.filter_append, h1]
      simp [hyes])
    have HB1 := Lib.hid (And.intro hb1 (own_kept HO.out hb1)); clear hb1 hno hyes hB0 htk0 hcs0
    have hi30 : (i0 : Int) + 1 ≤ 1000001 := by omega
    obtain ⟨n, hnl⟩ : ∃ n, l.length = n := ⟨_, rfl⟩
    rw [hnl] at HO HB1 hi0 hn hc1 hnc0
    unfold maxLen at hc2 hcm0
    rw [hnl]
    have HNL := Lib.hid hnl; clear hnl hA hcm0
    go_wp2_with fail
    go_loopw [5, 6] (fun iv jv wr => ∃ i j : Nat, i < j ∧ j ≤ n ∧ iv = .int .i64 i ∧ jv = .int .i64 j ∧ ∃ cs : List (ByteArray × Int), cs.length = n ∧ wr.ownsRow base 55 2 (.slice (some ⟨g, 0, none⟩) n c) n (cs.flatMap eCFD) ∧ cs.take i = (l.take j).filter (fun x => !p x) ∧ cs.drop j = l.drop j ∧ w.grownBy wr (some g)) (fun _ jv _ => n - (intOf jv).toNat)
    case atStart => exact ⟨i0, i0 + 1, by omega, by omega, rfl, by go_num, l, HNL.out, HB1.out.2, HFI.out.2.symm, rfl, grown_below HB1.out.1⟩
    case round =>
      obtain ⟨i, j, hij, hjn, rfl, rfl, cs, hcl, ho, htk, hdr, hg⟩ := hrel
      have HR := Lib.hid (And.intro ho (And.intro htk (And.intro hdr (And.intro hg hcl)))); clear ho htk hdr hg hcl
      by_cases hlt : j < n
      · obtain ⟨gp', cap, cur, hA, hbg, hB, hnc, hcm, hcs, htk⟩ := own_form HR.out.1 (by omega)
        obtain ⟨rfl, rfl⟩ : g = gp' ∧ c = cap := by injection hA with e1 e2 e3; exact ⟨congrArg Addr.block (Option.some.inj e1), e3⟩
        have hjl : j < cs.length := by rw [HR.out.2.2.2.2]; exact hlt
        have hjL : j < l.length := by rw [HNL.out]; exact hlt
        have hxe : cs[j] = l[j] := by
          have h1 : (cs.drop j)[0]? = (l.drop j)[0]? := by rw [HR.out.2.2.1]
          rw [List.getElem?_drop, List.getElem?_drop, Nat.add_zero, List.getElem?_eq_getElem hjl, List.getElem?_eq_getElem hjL] at h1
          exact Option.some.inj h1
        have hcj := fun (q : Nat) (hq : q < 2) => (by
          have h1 := flat_get eCFD_len cs j hjl q hq
          have h2 : j * 2 + q < n * 2 := by have : (j + 1) * 2 ≤ n * 2 := Nat.mul_le_mul_right _ hlt; omega
          rw [hB.cell, ← Array.getElem?_toList, ← h1, ← htk, List.getElem?_take, if_pos h2] : wr.cell? ⟨g, j * 2 + q, none⟩ = (eCFD cs[j])[q]?)
        simp only [hxe] at hcj
        have hmem : l[j] ∈ l := List.getElem_mem hjL
        obtain ⟨x, hx⟩ : ∃ x, l[j] = x := ⟨_, rfl⟩
        rw [hx] at hmem
        simp only [hx] at hcj
        have HX := Lib.hid hx; clear hx hxe
        have hcw : C wr := HC.out w wr H0.out HR.out.2.2.2.1
        have hcw1 : C (wr.alloc (.cells (eCFD x).toArray 55)) := HC.out _ _ hcw (grown_alloc (grown_refl wr _) _)
        have HF := Lib.hid (HCL.out _ x hmem hcw1)
        have hbx := Blk.new wr 55 (eCFD x).toArray
        have hba := (Below.refl wr.heap.size wr).alloc (Nat.le_refl _) (.cells (eCFD x).toArray 55)
        have HBX := Lib.hid (And.intro hbx hba); clear hbx hba hcw hcw1 hmem
        have b0 : wr.cell? ⟨g, j * 2, none⟩ = _ := hcj 0 (by omega)
        have b1 : wr.cell? ⟨g, j * 2 + 1, none⟩ = _ := hcj 1 (by omega)
        simp only [eCFD, List.getElem?_cons_succ, List.getElem?_cons_zero] at b0 b1
        have hq3 : (j : Int) < n := by omega
        have HB := Lib.hid hB
        have HTK := Lib.hid htk; clear hB htk hcs hcj hA hcm
        have HPX := Lib.hid (fun (hp : p x = true) => (by rw [List.take_succ_eq_append_getElem hjL, HX.out, List.filter_append, HR.out.2.1]; simp [hp] : cs.take i = (l.take (j + 1)).filter (fun x => !p x)))
        have HPY := Lib.hid (fun (hp : p x = false) => (by rw [List.take_succ_eq_append_getElem hjL, HX.out, List.filter_append, ← HR.out.2.1]; simp [hp] : (l.take (j + 1)).filter (fun x => !p x) = cs.take i ++ [x]))
        obtain ⟨pv, hpv⟩ : ∃ pv, p x = pv := ⟨_, rfl⟩
        rw [hpv] at HPX HPY HF
        simp only [eCFD] at HF
        cases pv with
        | true =>
          clear hpv
          go_wp2_with fail
          refine HF.out.mono ?_
          rintro e w2 ⟨rfl, hb2⟩
          have hg2 : w.grownBy w2 (some g) := grown_sub (grown_alloc HR.out.2.2.2.1 _) (grown_below (row := none) hb2) (fun k hk => by cases hk)
          have HZ := Lib.hid (And.intro hg2 (own_kept (own_kept HR.out.1 HBX.out.2) hb2)); clear hg2 hb2
          go_wp2_with fail
          go_roundw
          case rel => exact ⟨i, j + 1, by omega, by omega, rfl, by go_num, cs, HR.out.2.2.2.2, HZ.out.2, HPX.out (by trivial), by rw [← List.drop_drop, ← List.drop_drop, HR.out.2.2.1], HZ.out.1⟩
          case measure => simp [intOf]; omega
        | false =>
          clear hpv
          go_wp2_with fail
          refine HF.out.mono ?_
          rintro e w2 ⟨rfl, hb2⟩
          have hbx2 := (HBX.out.1).below hb2 HBX.out.1.lt
          have hg2 : w.grownBy w2 (some g) := grown_sub (grown_alloc HR.out.2.2.2.1 _) (grown_below (row := none) hb2) (fun k hk => by cases hk)
          have ho2 := own_kept (own_kept HR.out.1 HBX.out.2) hb2
          have hB := (HB.out.below HBX.out.2 HB.out.lt).below hb2 (Nat.lt_of_lt_of_le HB.out.lt HBX.out.2.size)
          have x0 : w2.cell? ⟨wr.heap.size, 0, none⟩ = _ := hbx2.cell 0
          have x1 : w2.cell? ⟨wr.heap.size, 1, none⟩ = _ := hbx2.cell 1
          simp [eCFD] at x0 x1
          have fa0 := hB.frozen (i * 2)
          have fa1 := hB.frozen (i * 2 + 1)
          have hil : i < cs.length := by rw [HR.out.2.2.2.2]; omega
          have hci := fun (q : Nat) (hq : q < 2) => (by
            have h1 := flat_get eCFD_len cs i hil q hq
            have h2 : i * 2 + q < n * 2 := by have : (i + 1) * 2 ≤ n * 2 := Nat.mul_le_mul_right _ (by omega); omega
            rw [hB.cell, ← Array.getElem?_toList, ← h1, ← HTK.out, List.getElem?_take, if_pos h2] : w2.cell? ⟨g, i * 2 + q, none⟩ = (eCFD cs[i])[q]?)
          obtain ⟨y, hy⟩ : ∃ y, cs[i] = y := ⟨_, rfl⟩
          simp only [hy] at hci
          have a0 : w2.cell? ⟨g, i * 2, none⟩ = _ := hci 0 (by omega)
          have a1 : w2.cell? ⟨g, i * 2 + 1, none⟩ = _ := hci 1 (by omega)
          simp only [eCFD, List.getElem?_cons_succ, List.getElem?_cons_zero] at a0 a1
          clear hci hy
          have HST := Lib.hid (by
            have h1 := own_setCells (eCFD x) (i * 2) w2 _ ho2 (by rw [eCFD_len]; omega)
            have f1 := flat_put eCFD_len cs i hil x 0 (eCFD x) (by rw [eCFD_len]; omega) (by simp [eCFD_len])
            simp only [Nat.add_zero] at f1
            rw [f1] at h1
            exact And.intro h1 (grown_setCells (eCFD x) (i * 2) w2 hg2))
          have hq4 : (i : Int) < n := by omega
          have hq5 : i < n := by omega
          clear hB hg2 ho2 hb2 hbx2
          go_wp2_with fail
          go_roundw
          case rel => exact ⟨i + 1, j + 1, by omega, by omega, by go_num, by go_num, cs.set i x, by rw [List.length_set]; exact HR.out.2.2.2.2, HST.out.1, by rw [HPY.out (by trivial), List.take_succ_eq_append_getElem (by rw [List.length_set]; exact hil), List.getElem_set_self, List.take_set_of_le (Nat.le_refl _)], by rw [List.drop_set_of_lt (by omega), ← List.drop_drop, ← List.drop_drop, HR.out.2.2.1], HST.out.2⟩
          case measure => simp [intOf]; omega
      · obtain rfl : j = n := by omega
        obtain ⟨gp', cap, cur, hA, hbg, hB, hnc, hcm, hcs, htk⟩ := own_form HR.out.1 (by omega)
        obtain ⟨rfl, rfl⟩ : g = gp' ∧ c = cap := by injection hA with e1 e2 e3; exact ⟨congrArg Addr.block (Option.some.inj e1), e3⟩
        obtain ⟨r2, hcl, hr2s, hr2t⟩ := run_clear_rows (P := Tryz.prog) wr 38 55 (.agg #[.string ⟨#[]⟩, .int .i64 0]) 2 Tryz.underlying38 Tryz.zeroValue55 rfl (by decide) g (i * 2) (j - i) (c - i) (by omega) cur 55 hB (by rw [hcs, Nat.sub_mul]; have : i * 2 ≤ j * 2 := Nat.mul_le_mul_right _ (by omega); have : j * 2 ≤ c * 2 := Nat.mul_le_mul_right _ (by omega); omega)
        have hfl : l.filter (fun x => !p x) = cs.take i := by rw [HR.out.2.1, List.take_of_length_le (by rw [HNL.out]; omega)]
        have hil : i ≤ cs.length := by rw [HR.out.2.2.2.2]; omega
        have hx2 : r2.toList.take (i * 2) = (l.filter fun x => !p x).flatMap eCFD := by
          rw [hr2t, hfl, flat_take eCFD_len, ← htk, List.take_take, Nat.min_eq_left (Nat.mul_le_mul_right _ (by omega))]
        have hli : (l.filter fun x => !p x).length = i := by rw [hfl, List.length_take]; omega
        have hfin : DelFPostFD base (l.filter fun x => !p x) (some g) w (.returned (.slice (some ⟨g, 0, none⟩) i c)) (wr.setRow g r2) :=
          ⟨_, rfl, by rw [hli]; exact own_mk hbg (hB.setRow _) (by omega) hc2 (by rw [hr2s, hcs]) hx2, grown_trans HR.out.2.2.2.1 (grown_setRow _ _ _), rfl⟩
        have HF := Lib.hid hfin; clear hfin hx2 hli hfl htk hcs hB hA hr2t hr2s hil hcm
        have h1 : (i : Int) ≤ j := by omega
        have h2 : i ≤ j := by omega
        have h3 : ¬ c = i := by omega
        have h4 : (i : Int) ≤ c := by omega
        have h5 : i ≤ c := by omega
        go_wp2_with (at_builtin; refine wpList_clear_rows _ rfl _ 38 rfl _ rfl (hcl _) ?_)
        go_ret
        exact HF.out
  · have hfl : l.filter (fun x => !p x) = l := by
      rw [List.filter_eq_self]
      intro x hx
      rw [hnone x hx]; rfl
    have hpst : DelFPostFD base (l.filter fun x => !p x) (Value.slice A l.length c).ownBlock w (.returned (.slice A l.length c)) w1 := ⟨_, rfl, by rw [hfl]; exact own_kept HO.out hb1, grown_below hb1, rfl⟩
    have HF := Lib.hid hpst; clear hpst
    clear hfl hnone hb1
    go_wp2_with fail
    go_ret
    exact HF.out
end Go.Proofs.YteofiffbobbdmaaGreatDoor
/- detect.Of, Count. -/
set_option linter.unusedVariables false
set_option linter.unusedSimpArgs false
namespace Go.Proofs.YteofiffbobbdmaaGreatDoor
open Go Go.RowKit
open Sw
set_option maxRecDepth 100000 in
theorem detOf1_any (w : World) (x : FdE) :
    Calls Tryz.prog 39 #[.agg (eCFD x).toArray] w fun e w' => e = .returned (.bool (decide (x.2 = 0))) ∧ Below w.heap.size w w' := by
  obtain ⟨p, s⟩ := x
  have hb1 := (Below.refl w.heap.size w).alloc (Nat.le_refl _) (.cells #[.string p, .int .i64 s] 55)
  have HB := Lib.hid hb1; clear hb1
  have hd : (s == 0) = decide (s = 0) := by by_cases h : s = 0 <;> simp [h]
  simp only [eCFD]
  generalize decide (s = 0) = b at *
  go_enter Tryz.func39, Tryz.ntmps39
  go_wp2_with fail
  go_ret
  exact ⟨rfl, HB.out⟩
set_option maxRecDepth 100000 in
set_option maxHeartbeats 4000000 in
theorem detOf_any (w : World) (u1 u2 : Value) (l1 l2 : List MkE) (bt bm : Nat) (xs : List NE) (h1 : SlV w 6 eCM u1 l1) (h2 : SlV w 6 eCM u2 l2) (hl1 : l1.length ≤ 1000) (hl2 : l2.length ≤ 1000) (hp1 : ∀ m ∈ l1, m.1.size ≤ 90000) (hp2 : ∀ m ∈ l2, m.1.size ≤ 90000)
    (hT : TreeAt w bt bm xs) (hxl : xs.length ≤ 1000) (hxp : ∀ e ∈ xs, e.1.size ≤ 90000) (hxd : ∀ e ∈ xs, e.2.data.size ≤ maxLen) :
    Calls Tryz.prog 14 #[.agg #[u1, u2], .pointer (some ⟨bt, 0, none⟩)] w fun e w' => ∃ u, e = .returned u ∧ OwnFd w' w.heap.size u ((allP (l1 ++ l2) xs).filter fun f => !decide (f.2 = 0)) ∧ Below w.heap.size w w' := by
  have hb0 : Below w.heap.size w (w.alloc (.cells #[u1, u2] 24)) := (Below.refl _ w).alloc (Nat.le_refl _) _
  have HA := Lib.hid (detAll_any (w.alloc (.cells #[u1, u2] 24)) u1 u2 l1 l2 bt bm xs (h1.below hb0 (Nat.le_refl _)) (h2.below hb0 (Nat.le_refl _)) hl1 hl2 hp1 hp2 (hT.below hb0) hxl hxp hxd)
  have hal : (allP (l1 ++ l2) xs).length ≤ 3000 := by
    unfold allP
    rw [List.length_map]
    exact Nat.le_trans (pathsS_len _) (by rw [List.length_append, List.length_map, List.length_map, List.length_append]; omega)
  have HB := Lib.hid hb0
  clear h1 h2 hT hb0 hp1 hp2 hxp hxd
  generalize allP (l1 ++ l2) xs = F at *
  go_enter Tryz.func14, Tryz.ntmps14
  go_wp2_with fail
  refine HA.out.mono ?_
  rintro e w1 ⟨u, rfl, ho, hb1⟩
  have HD := Lib.hid (slDelFuncFD_any (fun f => decide (f.2 = 0)) (fun _ => True) w1 _ u F ho (fun _ _ _ _ => trivial) 0 (by omega) trivial (fun W x _ _ => detOf1_any W x))
  have hrow := fun k (hk : u.ownBlock = some k) => (ho.lt k hk).1
  have HR := Lib.hid (And.intro (HB.out.trans (hb1.mono HB.out.size)) hrow)
  clear ho hb1 hrow HA
  go_wp2_with fail
  refine HD.out.mono ?_
  rintro e w2 ⟨v2, rfl, ho2, hg2, hr2⟩
  have hb2 := HR.out.1.grown hg2 HR.out.1.size (fun k hk => Nat.le_trans HB.out.size (HR.out.2 k hk))
  have HF := Lib.hid (And.intro (own_wide ho2 HB.out.size : w2.ownsRow w.heap.size _ _ _ _ _) hb2)
  clear ho2 hg2 hr2 hb2
  go_wp2_with fail
  go_ret
  exact ⟨_, rfl, HF.out.1, HF.out.2⟩
end Go.Proofs.YteofiffbobbdmaaGreatDoor
/- detect.Changed; law 29's same, of rows that are alike. -/
set_option linter.unusedVariables false
set_option linter.unusedSimpArgs false
namespace Go.Proofs.YteofiffbobbdmaaGreatDoor
open Go Go.RowKit
open Sw
set_option maxRecDepth 100000 in
theorem changed_any (w : World) (u1 u2 : Value) (l1 l2 : List MkE) (bt bm : Nat) (xs : List NE) (p : ByteArray) (h1 : SlV w 6 eCM u1 l1) (h2 : SlV w 6 eCM u2 l2) (hl1 : l1.length ≤ 100000) (hl2 : l2.length ≤ 100000)
    (hT : TreeAt w bt bm xs) (hxl : xs.length ≤ 1000) (hxd : ∀ e ∈ xs, e.2.data.size ≤ maxLen) (hp : p.size ≤ 90000) :
    Calls Tryz.prog 11 #[.agg #[u1, u2], .pointer (some ⟨bt, 0, none⟩), .string p] w fun e w' => e = .returned (.bool (!decide (ofP (l1 ++ l2) xs p = 0))) ∧ Below w.heap.size w w' := by
  have hb0 : Below w.heap.size w (w.alloc (.cells #[u1, u2] 24)) := (Below.refl _ w).alloc (Nat.le_refl _) _
  have HA := Lib.hid (of_any (w.alloc (.cells #[u1, u2] 24)) u1 u2 l1 l2 bt bm xs p (h1.below hb0 (Nat.le_refl _)) (h2.below hb0 (Nat.le_refl _)) hl1 hl2 (hT.below hb0) hxl hxd hp)
  have HB := Lib.hid hb0
  clear h1 h2 hT hb0 hxd
  generalize ofP (l1 ++ l2) xs p = st at *
  rw [show (!decide (st = 0)) = (st != 0) by by_cases h : st = 0 <;> simp [h]]
  go_enter Tryz.func11, Tryz.ntmps11
  go_wp2_with fail
  refine HA.out.mono ?_
  rintro e w1 ⟨rfl, hb1⟩
  have H1 := Lib.hid (HB.out.trans (hb1.mono HB.out.size)); clear hb1
  go_wp2_with fail
  go_ret
  refine ⟨?_, H1.out⟩
  first | rfl | simp | (trace_state; fail)
set_option maxRecDepth 100000 in
set_option maxHeartbeats 4000000 in
theorem same29_any (w : World) (v1 v2 : Value) (l : List FdE) (h1 : SlV w 2 eCFD v1 l) (h2 : SlV w 2 eCFD v2 l) :
    Calls Tryz.prog 13 #[v1, v2] w fun e w' => e = .returned (.bool true) ∧ ∃ n, w' = w.drewN n := by
  obtain ⟨A1, c1, rfl, hc1, hm1, s1⟩ := h1
  obtain ⟨A2, c2, rfl, hc2, hm2, s2⟩ := h2
  unfold maxLen at hm1 hm2
  obtain ⟨N, hN⟩ : ∃ N, l.length = N := ⟨_, rfl⟩
  rw [hN] at hc1 hc2 ⊢
  have HL := Lib.hid hN; clear hN
  have HS := Lib.hid (And.intro s1 s2); clear s1 s2
  go_enter Tryz.func13, Tryz.ntmps13
  go_wp2_with fail
  go_loopw [13] (fun i wr => ∃ k q : Nat, k ≤ N ∧ i = .int .i64 k ∧ wr = w.drewN q) (fun i _ => N - (intOf i).toNat)
  case atStart => exact ⟨0, 0, Nat.zero_le _, rfl, rfl⟩
  case round =>
    obtain ⟨k, q, hk, rfl, rfl⟩ := hrel
    by_cases hlt : k < N
    · have k1 : k < l.length := by have := HL.out; omega
      obtain ⟨b1, o1, rfl, _, q1⟩ := HS.out.1 (by omega)
      obtain ⟨b2, o2, rfl, _, q2⟩ := HS.out.2 (by omega)
      have g1 := q1 k k1 0 (by omega)
      have g2 := q2 k k1 0 (by omega)
      have g3 := q1 k k1 1 (by omega)
      have g4 := q2 k k1 1 (by omega)
      simp [eCFD] at g1 g2 g3 g4
      clear q1 q2
      have i0 : (0 : Int) ≤ k := by omega
      have i1 : (k : Int) < N := by omega
      generalize l[k] = x at *
      obtain ⟨p, st⟩ := x
      simp only at g1 g2 g3 g4
      have te : (p.toList == p.toList) = true := by simp
      go_wp2_with fail
      go_quiet (fail)
      go_wp2_with fail
      go_roundw
      case rel => exact ⟨k + 1, q + nq, by omega, by go_num, rfl⟩
      case measure => simp [intOf]; omega
    · obtain rfl : k = N := by omega
      go_wp2_with fail
      go_ret
      exact ⟨rfl, q, rfl⟩
end Go.Proofs.YteofiffbobbdmaaGreatDoor
/- detect.Count. -/
set_option linter.unusedVariables false
set_option linter.unusedSimpArgs false
namespace Sw
/-- how many of a row are in a state -/
def cntF (k : Int) (l : List (ByteArray × Int)) : Int := ((l.filter fun f => decide (f.2 = k)).length : Nat)
theorem cntF_step (k : Int) (l : List (ByteArray × Int)) (i : Nat) (h : i < l.length) : cntF k (l.take (i + 1)) = cntF k (l.take i) + if l[i].2 = k then 1 else 0 := by
  unfold cntF
  rw [List.take_succ_eq_append_getElem h, List.filter_append, List.length_append]
  by_cases hk : l[i].2 = k
  · rw [if_pos hk, List.filter_cons_of_pos (by simpa using hk)]; simp
  · rw [if_neg hk, List.filter_cons_of_neg (by simpa using hk)]; simp
theorem cntF_le (k : Int) (l : List (ByteArray × Int)) : 0 ≤ cntF k l ∧ cntF k l ≤ l.length := by
  unfold cntF
  have := List.length_filter_le (fun f : ByteArray × Int => decide (f.2 = k)) l
  omega
end Sw
namespace Go.Proofs.YteofiffbobbdmaaGreatDoor
open Go Go.RowKit
open Sw
set_option maxRecDepth 100000 in
set_option maxHeartbeats 8000000 in
theorem detCount_any (w : World) (v : Value) (l : List FdE) (h : SlV w 2 eCFD v l) (hl : l.length ≤ 100000) (hs : ∀ f ∈ l, f.2 = 0 ∨ f.2 = 1 ∨ f.2 = 2 ∨ f.2 = 3) :
    Calls Tryz.prog 15 #[v] w fun e w' => e = .returned (.agg #[.int .i64 (cntF 0 l), .int .i64 (cntF 1 l), .int .i64 (cntF 2 l), .int .i64 (cntF 3 l)]) ∧ Below w.heap.size w w' := by
  obtain ⟨A, k, rfl, hk1, hk2, hsl⟩ := h
  unfold maxLen at hk2
  have hb0 : Below w.heap.size w (w.alloc (.cells #[.int .i64 0, .int .i64 0, .int .i64 0, .int .i64 0] 34)) := (Below.refl _ w).alloc (Nat.le_refl _) _
  have H0 := Lib.hid (And.intro (Blk.new w 34 #[.int .i64 0, .int .i64 0, .int .i64 0, .int .i64 0]) (And.intro hb0 (And.intro hsl hs)))
  obtain ⟨n, hn⟩ : ∃ n, l.length = n := ⟨_, rfl⟩
  rw [hn] at hk1 hl ⊢
  have HN := Lib.hid hn
  obtain ⟨a0, hz0⟩ : ∃ z, cntF 0 l = z := ⟨_, rfl⟩
  obtain ⟨a1, hz1⟩ : ∃ z, cntF 1 l = z := ⟨_, rfl⟩
  obtain ⟨a2, hz2⟩ : ∃ z, cntF 2 l = z := ⟨_, rfl⟩
  obtain ⟨a3, hz3⟩ : ∃ z, cntF 3 l = z := ⟨_, rfl⟩
  rw [hz0, hz1, hz2, hz3]
  have HZ := Lib.hid (And.intro hz0 (And.intro hz1 (And.intro hz2 hz3)))
  clear hsl hs hb0 hn hz0 hz1 hz2 hz3
  go_enter Tryz.func15, Tryz.ntmps15
  go_wp2_with fail
  go_loopw [7] (fun iv wr => ∃ i : Nat, iv = .int .i64 i ∧ i ≤ n ∧ Blk wr w.heap.size 34 #[.int .i64 (cntF 0 (l.take i)), .int .i64 (cntF 1 (l.take i)), .int .i64 (cntF 2 (l.take i)), .int .i64 (cntF 3 (l.take i))] ∧ Below w.heap.size w wr) (fun iv _ => n - (intOf iv).toNat)
  case atStart => exact ⟨0, rfl, Nat.zero_le _, H0.out.1, H0.out.2.1⟩
  case round =>
    obtain ⟨i, rfl, hi, hB, hb⟩ := hrel
    by_cases hlt : i < n
    · have hiL : i < l.length := by have := HN.out; omega
      obtain ⟨b, off, rfl, hbb, hcs⟩ := (H0.out.2.2.1.below hb (Nat.le_refl _)) (by omega)
      have c0 := hcs i hiL 0 (by omega)
      have c1 := hcs i hiL 1 (by omega)
      simp only [eCFD, List.getElem?_cons_succ, List.getElem?_cons_zero, Nat.add_zero] at c0 c1
      clear hcs
      have hi1 : (i : Int) < n := by omega
      have hsx := H0.out.2.2.2 _ (List.getElem_mem hiL)
      have e0 := cntF_step 0 l i hiL
      have e1 := cntF_step 1 l i hiL
      have e2 := cntF_step 2 l i hiL
      have e3 := cntF_step 3 l i hiL
      have b0 := cntF_le 0 (l.take i)
      have b1 := cntF_le 1 (l.take i)
      have b2 := cntF_le 2 (l.take i)
      have b3 := cntF_le 3 (l.take i)
      rw [List.length_take] at b0 b1 b2 b3
      obtain ⟨⟨q, s⟩, hx⟩ : ∃ x, l[i] = x := ⟨_, rfl⟩
      simp only [hx] at c0 c1 hsx e0 e1 e2 e3
      clear hx
      generalize cntF 0 (l.take i) = a0 at *
      generalize cntF 1 (l.take i) = a1 at *
      generalize cntF 2 (l.take i) = a2 at *
      generalize cntF 3 (l.take i) = a3 at *
      have hba := (Below.refl wr.heap.size wr).alloc (Nat.le_refl _) (.cells #[.string q, .int .i64 s] 55)
      have HR := Lib.hid (And.intro (hB.below hba hB.lt) (hb.trans (hba.mono hb.size)))
      have x0 := HR.out.1.cell 0
      have x1 := HR.out.1.cell 1
      have x2 := HR.out.1.cell 2
      have x3 := HR.out.1.cell 3
      simp at x0 x1 x2 x3
      have f0 := HR.out.1.frozen 0
      have f1 := HR.out.1.frozen 1
      have f2 := HR.out.1.frozen 2
      have f3 := HR.out.1.frozen 3
      clear hba hB hb
      rcases hsx with rfl | rfl | rfl | rfl
      · simp only [if_pos, reduceIte, Int.reduceEq, Int.add_zero] at e0 e1 e2 e3
        have hwr : IntKind.i64.wrap (a0 + 1) = a0 + 1 := IntWalk.i64_in _ (by omega)
        have HE := Lib.hid (And.intro e0 (And.intro e1 (And.intro e2 e3)))
        clear e0 e1 e2 e3
        go_wp2_with fail
        go_roundw
        case rel =>
          refine ⟨i + 1, by go_num, by omega, ?_, HR.out.2.setCell (p := ⟨w.heap.size, 0, none⟩) (Nat.le_refl _) _⟩
          rw [HE.out.1, HE.out.2.1, HE.out.2.2.1, HE.out.2.2.2]
          exact HR.out.1.put 0 (.int .i64 (a0 + 1))
        case measure => simp [intOf]; omega
      · simp only [if_pos, reduceIte, Int.reduceEq, Int.add_zero] at e0 e1 e2 e3
        have hwr : IntKind.i64.wrap (a1 + 1) = a1 + 1 := IntWalk.i64_in _ (by omega)
        have HE := Lib.hid (And.intro e0 (And.intro e1 (And.intro e2 e3)))
        clear e0 e1 e2 e3
        go_wp2_with fail
        go_roundw
        case rel =>
          refine ⟨i + 1, by go_num, by omega, ?_, HR.out.2.setCell (p := ⟨w.heap.size, 1, none⟩) (Nat.le_refl _) _⟩
          rw [HE.out.1, HE.out.2.1, HE.out.2.2.1, HE.out.2.2.2]
          exact HR.out.1.put 1 (.int .i64 (a1 + 1))
        case measure => simp [intOf]; omega
      · simp only [if_pos, reduceIte, Int.reduceEq, Int.add_zero] at e0 e1 e2 e3
        have hwr : IntKind.i64.wrap (a2 + 1) = a2 + 1 := IntWalk.i64_in _ (by omega)
        have HE := Lib.hid (And.intro e0 (And.intro e1 (And.intro e2 e3)))
        clear e0 e1 e2 e3
        go_wp2_with fail
        go_roundw
        case rel =>
          refine ⟨i + 1, by go_num, by omega, ?_, HR.out.2.setCell (p := ⟨w.heap.size, 2, none⟩) (Nat.le_refl _) _⟩
          rw [HE.out.1, HE.out.2.1, HE.out.2.2.1, HE.out.2.2.2]
          exact HR.out.1.put 2 (.int .i64 (a2 + 1))
        case measure => simp [intOf]; omega
      · simp only [if_pos, reduceIte, Int.reduceEq, Int.add_zero] at e0 e1 e2 e3
        have hwr : IntKind.i64.wrap (a3 + 1) = a3 + 1 := IntWalk.i64_in _ (by omega)
        have HE := Lib.hid (And.intro e0 (And.intro e1 (And.intro e2 e3)))
        clear e0 e1 e2 e3
        go_wp2_with fail
        go_roundw
        case rel =>
          refine ⟨i + 1, by go_num, by omega, ?_, HR.out.2.setCell (p := ⟨w.heap.size, 3, none⟩) (Nat.le_refl _) _⟩
          rw [HE.out.1, HE.out.2.1, HE.out.2.2.1, HE.out.2.2.2]
          exact HR.out.1.put 3 (.int .i64 (a3 + 1))
        case measure => simp [intOf]; omega
    · obtain rfl : i = n := by omega
      have hf : l.take i = l := List.take_of_length_le (by have := HN.out; omega)
      rw [hf, HZ.out.1, HZ.out.2.1, HZ.out.2.2.1, HZ.out.2.2.2] at hB
      have x0 := hB.cell 0
      have x1 := hB.cell 1
      have x2 := hB.cell 2
      have x3 := hB.cell 3
      simp at x0 x1 x2 x3
      have f0 := hB.frozen 0
      have f1 := hB.frozen 1
      have f2 := hB.frozen 2
      have f3 := hB.frozen 3
      have HR := Lib.hid (And.intro hB hb)
      clear hB hb hf
      go_wp2_with fail
      refine bodyPost_ret (v := .agg #[.int .i64 a0, .int .i64 a1, .int .i64 a2, .int .i64 a3]) (results_cell_row rfl _ _ w.heap.size 34 #[.int .i64 a0, .int .i64 a1, .int .i64 a2, .int .i64 a3] (0, 0) _ rfl ((((HR.out.1.put 0 (.int .i64 a0)).put 1 (.int .i64 a1)).put 2 (.int .i64 a2)).put 3 (.int .i64 a3)) Tryz.underlying34 rfl (by kernel_rfl)) rfl ⟨rfl, ?_⟩
      exact (((HR.out.2.setCell (p := ⟨w.heap.size, 0, none⟩) (Nat.le_refl _) (.int .i64 a0)).setCell (p := ⟨w.heap.size, 1, none⟩) (Nat.le_refl _) (.int .i64 a1)).setCell (p := ⟨w.heap.size, 2, none⟩) (Nat.le_refl _) (.int .i64 a2)).setCell (p := ⟨w.heap.size, 3, none⟩) (Nat.le_refl _) (.int .i64 a3)
end Go.Proofs.YteofiffbobbdmaaGreatDoor
