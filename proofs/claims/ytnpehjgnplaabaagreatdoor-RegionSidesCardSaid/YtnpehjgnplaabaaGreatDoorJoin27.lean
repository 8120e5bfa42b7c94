/- Several texts, joined for the limit of sixty files; each one opens with its own comment. -/
import Derived.Test.YtnpehjgnplaabaaGreatDoorJoin26
import Derived.Test.YtnpehjgnplaabaaGreatDoorJoin2
import Derived.Test.YtnpehjgnplaabaaGreatDoorJoin9
import Derived.Test.YtnpehjgnplaabaaGreatDoorJoin19
import Derived.Test.YtnpehjgnplaabaaGreatDoorJoin25
import Derived.Test.YtnpehjgnplaabaaGreatDoorJoin7
/- Several texts, joined for the limit of sixty files; each one opens with its own comment. -/
/- slices.IndexFunc, ContainsFunc, DeleteFunc of rows of strings, by the predicates of package region. -/
set_option linter.unusedVariables false
set_option linter.unusedSimpArgs false
namespace Go.Proofs.YtnpehjgnplaabaaGreatDoor
open Go Go.RowKit
open Sw
theorem sE_lenP (t : ByteArray) : (sE t).length = 1 := rfl
theorem sE_oneP (t : ByteArray) : ∀ u ∈ sE t, u.oneCell' = true := by intro u hu; simp [sE] at hu; subst hu; rfl
def IdxPostS (p : ByteArray → Bool) (l : List ByteArray) (w : World) (e : Ending) (w' : World) : Prop :=
  ((∃ i : Nat, ∃ h : i < l.length, (∀ m (h : m < l.length), m < i → p l[m] = false) ∧ p l[i] = true ∧ e = .returned (.int .i64 i)) ∨ ((∀ x ∈ l, p x = false) ∧ e = .returned (.int .i64 (-1)))) ∧ Below w.heap.size w w'
set_option maxRecDepth 100000 in
set_option maxHeartbeats 4000000 in
theorem idxBD_any (p : ByteArray → Bool) (r0 : Option Nat) (C : World → Prop) (hC : ∀ W W', C W → W.grownBy W' r0 → C W') (w : World) (A : Option Addr) (n c g g2 : Nat) (l : List ByteArray) (hl : l.length = n) (hn : n ≤ 1000000) (hsl : SlOf w 1 sE A l) (h0 : C w)
    (hcall : ∀ W x, x ∈ l → C W → Calls Tryz.prog 60 #[.string x, .pointer (some ⟨g, 0, none⟩), .pointer (some ⟨g2, 0, none⟩)] W fun e w' => e = .returned (.bool (p x)) ∧ Below W.heap.size W w') :
    Calls Tryz.prog 98 #[.slice A n c, .func (.func 60) #[] #[.pointer (some ⟨g, 0, none⟩), .pointer (some ⟨g2, 0, none⟩)]] w (IdxPostS p l w) := by
  have HS := Lib.hid hsl; clear hsl
  have HL := Lib.hid hl; clear hl
  have HC := Lib.hid hC; clear hC
  have HCL := Lib.hid hcall; clear hcall
  have H0 := Lib.hid h0; clear h0
  go_enter Tryz.func98, Tryz.ntmps98
  go_wp2_with fail
  go_loopw [8] (fun iv wr => ∃ i : Nat, i ≤ n ∧ iv = .int .i64 i ∧ (∀ m (h : m < l.length), m < i → p l[m] = false) ∧ Below w.heap.size w wr) (fun iv _ => n - (intOf iv).toNat)
  case atStart => exact ⟨0, Nat.zero_le _, rfl, fun m h h' => absurd h' (Nat.not_lt_zero _), Below.refl _ _⟩
  case round =>
    obtain ⟨i, hin, rfl, hno, hbr⟩ := hrel
    have HNO := Lib.hid hno; clear hno
    by_cases hlt : i < n
    · have hiL : i < l.length := by have := HL.out; omega
      obtain ⟨b, off, rfl, hbb, hcs⟩ := (HS.out.below hbr (Nat.le_refl _)) (by omega)
      have hci := hcs i hiL 0 (by omega)
      simp only [sE, List.getElem?_cons_zero, Nat.add_zero, Nat.mul_one] at hci
      have HF := Lib.hid (HCL.out wr l[i] (List.getElem_mem hiL) (HC.out w wr H0.out (grown_below hbr)))
      have HYES := Lib.hid (fun (hp : p l[i] = true) w' (hb : Below w.heap.size w w') => (⟨.inl ⟨i, hiL, HNO.out, hp, rfl⟩, hb⟩ : IdxPostS p l w (.returned (.int .i64 i)) w'))
      have HNO2 := Lib.hid (fun (hp : p l[i] = false) m (hm : m < l.length) (hmi : m < i + 1) => (by
        by_cases e : m = i
        · subst e; exact hp
        · exact HNO.out m hm (by omega) : p l[m] = false))
      generalize p l[i] = pv at *
      generalize l[i] = X at *
      have q2 : (i : Int) < n := by omega
      clear hcs
      cases pv with
      | true =>
        have hyes := HYES.out rfl
        have HYES2 := Lib.hid hyes; clear hyes HYES HNO2
        go_wp2_with fail
        refine HF.out.mono ?_
        rintro e w2 ⟨rfl, hb2⟩
        have HP := Lib.hid (HYES2.out w2 (hbr.trans (hb2.mono hbr.size)))
        clear HF HNO
        go_wp2_with fail
        go_ret
        exact HP.out
      | false =>
        have hno2 := HNO2.out rfl
        have HNO3 := Lib.hid hno2; clear hno2 HYES HNO2
        go_wp2_with fail
        refine HF.out.mono ?_
        rintro e w2 ⟨rfl, hb2⟩
        have HP := Lib.hid (And.intro HNO3.out (hbr.trans (hb2.mono hbr.size)))
        clear HF HNO
        go_wp2_with fail
        go_roundw
        case rel => exact ⟨i + 1, by omega, by go_num, HP.out.1, HP.out.2⟩
        case measure => simp [intOf]; omega
    · obtain rfl : i = n := by omega
      have hpst : IdxPostS p l w (.returned (.int .i64 (-1))) wr := ⟨.inr ⟨fun x hx => by
        obtain ⟨m, hm, rfl⟩ := List.mem_iff_getElem.1 hx
        exact HNO.out m hm (by have := HL.out; omega), rfl⟩, hbr⟩
      have HP := Lib.hid hpst; clear hpst
      go_wp2_with fail
      go_ret
      exact HP.out
set_option maxRecDepth 100000 in
theorem conBD_any (p : ByteArray → Bool) (C : World → Prop) (hC : ∀ W W', C W → W.grownBy W' none → C W') (w : World) (v : Value) (g g2 : Nat) (l : List ByteArray) (hv : SlV w 1 sE v l) (hn : l.length ≤ 1000000) (h0 : C w)
    (hcall : ∀ W x, x ∈ l → C W → Calls Tryz.prog 60 #[.string x, .pointer (some ⟨g, 0, none⟩), .pointer (some ⟨g2, 0, none⟩)] W fun e w' => e = .returned (.bool (p x)) ∧ Below W.heap.size W w') :
    Calls Tryz.prog 61 #[v, .func (.func 60) #[] #[.pointer (some ⟨g, 0, none⟩), .pointer (some ⟨g2, 0, none⟩)]] w fun e w' => e = .returned (.bool (l.any p)) ∧ Below w.heap.size w w' := by
  obtain ⟨A, c, rfl, _, _, hsl⟩ := hv
  have HI := Lib.hid (idxBD_any p none C hC w A l.length c g g2 l rfl hn hsl h0 hcall)
  clear hsl h0 hcall hC
  generalize hz : l.length = n at *
  have HZ := Lib.hid hz; clear hz
  go_enter Tryz.func61, Tryz.ntmps61
  go_wp2_with fail
  refine HI.out.mono ?_
  rintro e w1 ⟨⟨i, hi, _, hp, rfl⟩ | ⟨hno, rfl⟩, hb⟩
  · have h1 : l.any p = true := List.any_eq_true.2 ⟨l[i], List.getElem_mem hi, hp⟩
    have H1 := Lib.hid (And.intro h1 hb)
    have hi0 : (0 : Int) ≤ i := by omega
    clear h1 hb HI hp
    go_wp2_with fail
    go_ret
    exact ⟨by rw [H1.out.1]; rfl, H1.out.2⟩
  · have h1 : l.any p = false := by
      rw [Bool.eq_false_iff]
      intro h
      obtain ⟨m, hm, hp⟩ := List.any_eq_true.1 h
      have h2 := hno m hm
      rw [h2] at hp
      cases hp
    have H1 := Lib.hid (And.intro h1 hb)
    clear h1 hb HI hno
    go_wp2_with fail
    go_ret
    exact ⟨by rw [H1.out.1]; rfl, H1.out.2⟩
set_option maxRecDepth 100000 in
set_option maxHeartbeats 4000000 in
theorem idxTP_any (p : ByteArray → Bool) (r0 : Option Nat) (C : World → Prop) (hC : ∀ W W', C W → W.grownBy W' r0 → C W') (w : World) (A : Option Addr) (n c g : Nat) (l : List ByteArray) (hl : l.length = n) (hn : n ≤ 1000000) (hsl : SlOf w 1 sE A l) (h0 : C w)
    (hcall : ∀ W x, x ∈ l → C W → Calls Tryz.prog 96 #[.string x, .pointer (some ⟨g, 0, none⟩)] W fun e w' => e = .returned (.bool (p x)) ∧ Below W.heap.size W w') :
    Calls Tryz.prog 98 #[.slice A n c, .func (.func 96) #[] #[.pointer (some ⟨g, 0, none⟩)]] w (IdxPostS p l w) := by
  have HS := Lib.hid hsl; clear hsl
  have HL := Lib.hid hl; clear hl
  have HC := Lib.hid hC; clear hC
  have HCL := Lib.hid hcall; clear hcall
  have H0 := Lib.hid h0; clear h0
  go_enter Tryz.func98, Tryz.ntmps98
  go_wp2_with fail
  go_loopw [8] (fun iv wr => ∃ i : Nat, i ≤ n ∧ iv = .int .i64 i ∧ (∀ m (h : m < l.length), m < i → p l[m] = false) ∧ Below w.heap.size w wr) (fun iv _ => n - (intOf iv).toNat)
  case atStart => exact ⟨0, Nat.zero_le _, rfl, fun m h h' => absurd h' (Nat.not_lt_zero _), Below.refl _ _⟩
  case round =>
    obtain ⟨i, hin, rfl, hno, hbr⟩ := hrel
    have HNO := Lib.hid hno; clear hno
    by_cases hlt : i < n
    · have hiL : i < l.length := by have := HL.out; omega
      obtain ⟨b, off, rfl, hbb, hcs⟩ := (HS.out.below hbr (Nat.le_refl _)) (by omega)
      have hci := hcs i hiL 0 (by omega)
      simp only [sE, List.getElem?_cons_zero, Nat.add_zero, Nat.mul_one] at hci
      have HF := Lib.hid (HCL.out wr l[i] (List.getElem_mem hiL) (HC.out w wr H0.out (grown_below hbr)))
      have HYES := Lib.hid (fun (hp : p l[i] = true) w' (hb : Below w.heap.size w w') => (⟨.inl ⟨i, hiL, HNO.out, hp, rfl⟩, hb⟩ : IdxPostS p l w (.returned (.int .i64 i)) w'))
      have HNO2 := Lib.hid (fun (hp : p l[i] = false) m (hm : m < l.length) (hmi : m < i + 1) => (by
        by_cases e : m = i
        · subst e; exact hp
        · exact HNO.out m hm (by omega) : p l[m] = false))
      generalize p l[i] = pv at *
      generalize l[i] = X at *
      have q2 : (i : Int) < n := by omega
      clear hcs
      cases pv with
      | true =>
        have hyes := HYES.out rfl
        have HYES2 := Lib.hid hyes; clear hyes HYES HNO2
        go_wp2_with fail
        refine HF.out.mono ?_
        rintro e w2 ⟨rfl, hb2⟩
        have HP := Lib.hid (HYES2.out w2 (hbr.trans (hb2.mono hbr.size)))
        clear HF HNO
        go_wp2_with fail
        go_ret
        exact HP.out
      | false =>
        have hno2 := HNO2.out rfl
        have HNO3 := Lib.hid hno2; clear hno2 HYES HNO2
        go_wp2_with fail
        refine HF.out.mono ?_
        rintro e w2 ⟨rfl, hb2⟩
        have HP := Lib.hid (And.intro HNO3.out (hbr.trans (hb2.mono hbr.size)))
        clear HF HNO
        go_wp2_with fail
        go_roundw
        case rel => exact ⟨i + 1, by omega, by go_num, HP.out.1, HP.out.2⟩
        case measure => simp [intOf]; omega
    · obtain rfl : i = n := by omega
      have hpst : IdxPostS p l w (.returned (.int .i64 (-1))) wr := ⟨.inr ⟨fun x hx => by
        obtain ⟨m, hm, rfl⟩ := List.mem_iff_getElem.1 hx
        exact HNO.out m hm (by have := HL.out; omega), rfl⟩, hbr⟩
      have HP := Lib.hid hpst; clear hpst
      go_wp2_with fail
      go_ret
      exact HP.out
def DelFPostTP (base : Nat) (l : List (ByteArray)) (row : Option Nat) (w : World) (e : Ending) (w' : World) : Prop :=
  ∃ v, e = .returned v ∧ w'.ownsRow base 9 1 v l.length (l.flatMap sE) ∧ w.grownBy w' row ∧ v.ownBlock = row
set_option maxRecDepth 100000 in
set_option maxHeartbeats 8000000 in
theorem slDelFuncTP_any (p : ByteArray → Bool) (C : World → Prop) (w : World) (base : Nat) (v : Value) (l : List (ByteArray)) (hown : w.ownsRow base 9 1 v l.length (l.flatMap sE)) (hC : ∀ W W', C W → W.grownBy W' v.ownBlock → C W') (gp : Nat) (hn : l.length ≤ 1000000) (h0 : C w)
    (hcall : ∀ W x, x ∈ l → C W → Calls Tryz.prog 96 #[.string x, .pointer (some ⟨gp, 0, none⟩)] W fun e w' => e = .returned (.bool (p x)) ∧ Below W.heap.size W w') :
    Calls Tryz.prog 94 #[v, .func (.func 96) #[] #[.pointer (some ⟨gp, 0, none⟩)]] w (DelFPostTP base (l.filter fun x => !p x) v.ownBlock w) := by
  have hslv : SlV w 1 sE v l := SlV.of_own hown sE_lenP (by decide)
  obtain ⟨A, c, rfl, hc1, hc2, hsl⟩ := hslv
  have HIX := Lib.hid (idxTP_any p _ C hC w A l.length c gp l rfl hn hsl h0 hcall)
  have HO := Lib.hid hown; clear hown
  have HC := Lib.hid hC; clear hC
  have HCL := Lib.hid hcall; clear hcall
  have H0 := Lib.hid h0; clear h0
  clear hsl
  go_enter Tryz.func94, Tryz.ntmps94
  go_wp2_with fail
  refine HIX.out.mono ?_
  rintro e w1 ⟨⟨i0, hi0, hno, hyes, rfl⟩ | ⟨hnone, rfl⟩, hb1⟩
  · have hne : ((i0 : Int) == -1) = false := by rw [beq_eq_false_iff_ne]; omega
    obtain ⟨g, cap0, cur0, hA, hbg0, hB0, hnc0, hcm0, hcs0, htk0⟩ := own_form HO.out (by omega)
    obtain ⟨rfl, rfl⟩ : A = some ⟨g, 0, none⟩ ∧ c = cap0 := by injection hA with e1 e2 e3; exact ⟨e1, e3⟩
    have HFI := Lib.hid (show (l.take i0).filter (fun x => !p x) = l.take i0 ∧ (l.take (i0 + 1)).filter (fun x => !p x) = l.take i0 from by
      have h1 : (l.take i0).filter (fun x => !p x) = l.take i0 := by
        rw [List.filter_eq_self]
        intro x hx
        obtain ⟨m, hm, rfl⟩ := List.mem_iff_getElem.1 hx
        rw [List.length_take] at hm
        rw [List.getElem_take, hno m (by omega) (by omega)]; rfl
      refine ⟨h1, ?_⟩
      rw [List.take_succ_eq_append_getElem hi0, List.filter_append, h1]
      simp [hyes])
    have HB1 := Lib.hid (And.intro hb1 (own_kept HO.out hb1)); clear hb1 hno hyes hB0 htk0 hcs0
    have hi30 : (i0 : Int) + 1 ≤ 1000001 := by omega
    obtain ⟨n, hnl⟩ : ∃ n, l.length = n := ⟨_, rfl⟩
    rw [hnl] at HO HB1 hi0 hn hc1 hnc0
    unfold maxLen at hc2 hcm0
    rw [hnl]
    have HNL := Lib.hid hnl; clear hnl hA hcm0
    go_wp2_with fail
    go_loopw [5, 6] (fun iv jv wr => ∃ i j : Nat, i < j ∧ j ≤ n ∧ iv = .int .i64 i ∧ jv = .int .i64 j ∧ ∃ cs : List (ByteArray), cs.length = n ∧ wr.ownsRow base 9 1 (.slice (some ⟨g, 0, none⟩) n c) n (cs.flatMap sE) ∧ cs.take i = (l.take j).filter (fun x => !p x) ∧ cs.drop j = l.drop j ∧ w.grownBy wr (some g)) (fun _ jv _ => n - (intOf jv).toNat)
    case atStart => exact ⟨i0, i0 + 1, by omega, by omega, rfl, by go_num, l, HNL.out, HB1.out.2, HFI.out.2.symm, rfl, grown_below HB1.out.1⟩
    case round =>
      obtain ⟨i, j, hij, hjn, rfl, rfl, cs, hcl, ho, htk, hdr, hg⟩ := hrel
      have HR := Lib.hid (And.intro ho (And.intro htk (And.intro hdr (And.intro hg hcl)))); clear ho htk hdr hg hcl
      by_cases hlt : j < n
      · obtain ⟨gp', cap, cur, hA, hbg, hB, hnc, hcm, hcs, htk⟩ := own_form HR.out.1 (by omega)
        obtain ⟨rfl, rfl⟩ : g = gp' ∧ c = cap := by injection hA with e1 e2 e3; exact ⟨congrArg Addr.block (Option.some.inj e1), e3⟩
        have hjl : j < cs.length := by rw [HR.out.2.2.2.2]; exact hlt
        have hjL : j < l.length := by rw [HNL.out]; exact hlt
        have hxe : cs[j] = l[j] := by
          have h1 : (cs.drop j)[0]? = (l.drop j)[0]? := by rw [HR.out.2.2.1]
          rw [List.getElem?_drop, List.getElem?_drop, Nat.add_zero, List.getElem?_eq_getElem hjl, List.getElem?_eq_getElem hjL] at h1
          exact Option.some.inj h1
        have hcj := fun (q : Nat) (hq : q < 1) => (by
          have h1 := flat_get sE_lenP cs j hjl q hq
          have h2 : j * 1 + q < n * 1 := by have : (j + 1) * 1 ≤ n * 1 := Nat.mul_le_mul_right _ hlt; omega
          rw [hB.cell, ← Array.getElem?_toList, ← h1, ← htk, List.getElem?_take, if_pos h2] : wr.cell? ⟨g, j * 1 + q, none⟩ = (sE cs[j])[q]?)
        simp only [hxe] at hcj
        have hmem : l[j] ∈ l := List.getElem_mem hjL
        obtain ⟨x, hx⟩ : ∃ x, l[j] = x := ⟨_, rfl⟩
        rw [hx] at hmem
        simp only [hx] at hcj
        have HX := Lib.hid hx; clear hx hxe
        have hcw : C wr := HC.out w wr H0.out HR.out.2.2.2.1
        have HF := Lib.hid (HCL.out _ x hmem hcw)
        clear hcw hmem
        have b0 : wr.cell? ⟨g, j, none⟩ = some (.string x) := by have := hcj 0 (by omega); simpa [sE] using this
        have hq3 : (j : Int) < n := by omega
        have HB := Lib.hid hB
        have HTK := Lib.hid htk; clear hB htk hcs hcj hA hcm
        have HPX := Lib.hid (fun (hp : p x = true) => (by rw [List.take_succ_eq_append_getElem hjL, HX.out, List.filter_append, HR.out.2.1]; simp [hp] : cs.take i = (l.take (j + 1)).filter (fun x => !p x)))
        have HPY := Lib.hid (fun (hp : p x = false) => (by rw [List.take_succ_eq_append_getElem hjL, HX.out, List.filter_append, ← HR.out.2.1]; simp [hp] : (l.take (j + 1)).filter (fun x => !p x) = cs.take i ++ [x]))
        obtain ⟨pv, hpv⟩ : ∃ pv, p x = pv := ⟨_, rfl⟩
        rw [hpv] at HPX HPY HF
        cases pv with
        | true =>
          clear hpv
          go_wp2_with fail
          refine HF.out.mono ?_
          rintro e w2 ⟨rfl, hb2⟩
          have hg2 : w.grownBy w2 (some g) := grown_sub HR.out.2.2.2.1 (grown_below (row := none) hb2) (fun k hk => by cases hk)
          have HZ := Lib.hid (And.intro hg2 (own_kept HR.out.1 hb2)); clear hg2 hb2
          go_wp2_with fail
          go_roundw
          case rel => exact ⟨i, j + 1, by omega, by omega, rfl, by go_num, cs, HR.out.2.2.2.2, HZ.out.2, HPX.out (by trivial), by rw [← List.drop_drop, ← List.drop_drop, HR.out.2.2.1], HZ.out.1⟩
          case measure => simp [intOf]; omega
        | false =>
          clear hpv
          go_wp2_with fail
          refine HF.out.mono ?_
          rintro e w2 ⟨rfl, hb2⟩
          have hg2 : w.grownBy w2 (some g) := grown_sub HR.out.2.2.2.1 (grown_below (row := none) hb2) (fun k hk => by cases hk)
          have ho2 := own_kept HR.out.1 hb2
          have hB := HB.out.below hb2 HB.out.lt
          have fa0 := hB.frozen i
          have hil : i < cs.length := by rw [HR.out.2.2.2.2]; omega
          have hci := fun (q : Nat) (hq : q < 1) => (by
            have h1 := flat_get sE_lenP cs i hil q hq
            have h2 : i * 1 + q < n * 1 := by have : (i + 1) * 1 ≤ n * 1 := Nat.mul_le_mul_right _ (by omega); omega
            rw [hB.cell, ← Array.getElem?_toList, ← h1, ← HTK.out, List.getElem?_take, if_pos h2] : w2.cell? ⟨g, i * 1 + q, none⟩ = (sE cs[i])[q]?)
          obtain ⟨y, hy⟩ : ∃ y, cs[i] = y := ⟨_, rfl⟩
          simp only [hy] at hci
          have a0 : w2.cell? ⟨g, i, none⟩ = some (.string y) := by have := hci 0 (by omega); simpa [sE] using this
          clear hci hy
          have HST := Lib.hid (by
            have h1 := own_setCells (sE x) (i * 1) w2 _ ho2 (by rw [sE_lenP]; omega)
            have f1 := flat_put sE_lenP cs i hil x 0 (sE x) (by rw [sE_lenP]; omega) (by simp [sE])
            simp only [Nat.add_zero] at f1
            rw [f1] at h1
            have h2 := And.intro h1 (grown_setCells (sE x) (i * 1) w2 hg2)
            rw [Nat.mul_one] at h2
            exact h2)
          have hq4 : (i : Int) < n := by omega
          have hq5 : i < n := by omega
          clear hB hg2 ho2 hb2
          go_wp2_with fail
          go_roundw
          case rel => exact ⟨i + 1, j + 1, by omega, by omega, by go_num, by go_num, cs.set i x, by rw [List.length_set]; exact HR.out.2.2.2.2, HST.out.1, by rw [HPY.out (by trivial), List.take_succ_eq_append_getElem (by rw [List.length_set]; exact hil), List.getElem_set_self, List.take_set_of_le (Nat.le_refl _)], by rw [List.drop_set_of_lt (by omega), ← List.drop_drop, ← List.drop_drop, HR.out.2.2.1], HST.out.2⟩
          case measure => simp [intOf]; omega
      · obtain rfl : j = n := by omega
        obtain ⟨gp', cap, cur, hA, hbg, hB, hnc, hcm, hcs, htk⟩ := own_form HR.out.1 (by omega)
        obtain ⟨rfl, rfl⟩ : g = gp' ∧ c = cap := by injection hA with e1 e2 e3; exact ⟨congrArg Addr.block (Option.some.inj e1), e3⟩
        obtain ⟨r2, hcl, hr2s, hr2t⟩ := run_clear_rows (P := Tryz.prog) wr 34 9 (.string ⟨#[]⟩) 1 Tryz.underlying34 Tryz.zeroValue9 rfl (by decide) g (i * 1) (j - i) (c - i) (by omega) cur 9 hB (by rw [hcs, Nat.sub_mul]; have : i * 1 ≤ j * 1 := Nat.mul_le_mul_right _ (by omega); have : j * 1 ≤ c * 1 := Nat.mul_le_mul_right _ (by omega); omega)
        rw [Nat.mul_one] at hcl
        have hfl : l.filter (fun x => !p x) = cs.take i := by rw [HR.out.2.1, List.take_of_length_le (by rw [HNL.out]; omega)]
        have hil : i ≤ cs.length := by rw [HR.out.2.2.2.2]; omega
        have hx2 : r2.toList.take (i * 1) = (l.filter fun x => !p x).flatMap sE := by
          rw [hr2t, hfl, flat_take sE_lenP, ← htk, List.take_take, Nat.min_eq_left (Nat.mul_le_mul_right _ (by omega))]
        have hli : (l.filter fun x => !p x).length = i := by rw [hfl, List.length_take]; omega
        have hfin : DelFPostTP base (l.filter fun x => !p x) (some g) w (.returned (.slice (some ⟨g, 0, none⟩) i c)) (wr.setRow g r2) :=
          ⟨_, rfl, by rw [hli]; exact own_mk hbg (hB.setRow _) (by omega) hc2 (by rw [hr2s, hcs]) hx2, grown_trans HR.out.2.2.2.1 (grown_setRow _ _ _), rfl⟩
        have HF := Lib.hid hfin; clear hfin hx2 hli hfl htk hcs hB hA hr2t hr2s hil hcm
        have h1 : (i : Int) ≤ j := by omega
        have h2 : i ≤ j := by omega
        have h3 : ¬ c = i := by omega
        have h4 : (i : Int) ≤ c := by omega
        have h5 : i ≤ c := by omega
        go_wp2_with (at_builtin; refine wpList_clear_rows _ rfl _ 34 rfl _ rfl (hcl _) ?_)
        go_ret
        exact HF.out
  · have hfl : l.filter (fun x => !p x) = l := by
      rw [List.filter_eq_self]
      intro x hx
      rw [hnone x hx]; rfl
    have hpst : DelFPostTP base (l.filter fun x => !p x) (Value.slice A l.length c).ownBlock w (.returned (.slice A l.length c)) w1 := ⟨_, rfl, by rw [hfl]; exact own_kept HO.out hb1, grown_below hb1, rfl⟩
    have HF := Lib.hid hpst; clear hpst
    clear hfl hnone hb1
    go_wp2_with fail
    go_ret
    exact HF.out
end Go.Proofs.YtnpehjgnplaabaaGreatDoor
/- region's inside, bad. -/
set_option linter.unusedVariables false
set_option linter.unusedSimpArgs false
namespace Sw
open Go Go.Proofs.YtnpehjgnplaabaaGreatDoor
/-- a path's node in the map of one side -/
def ndAt (f : NP → Nd) (l : List NP) (q : ByteArray) : Nd := ((fN l q).map f).getD ndZ
theorem lkN_getD (f : NP → Nd) (l : List NP) (q : ByteArray) : (lkN f l q).getD (.agg #[.int .i64 0, .int .i64 0, .int .u32 0, .string ⟨#[]⟩]) = .agg (ndAt f l q).c := by
  unfold lkN ndAt
  cases fN l q with
  | none => rfl
  | some n => rfl
theorem fN_mem {l : List NP} (h : Rise (l.map NP.path)) {n : NP} (hn : n ∈ l) : fN l n.path = some n := by
  induction l with
  | nil => cases hn
  | cons m l ih =>
    have hr := List.pairwise_cons.1 h
    unfold fN
    rcases List.mem_cons.1 hn with rfl | hn
    · rw [List.find?_cons_of_pos (by simp)]
    · have hne : ¬ m.path = n.path := fun e => by
        have := hr.1 n.path (List.mem_map.2 ⟨n, hn, rfl⟩)
        rw [e, ordS_refl] at this
        omega
      rw [List.find?_cons_of_neg (by simpa using hne)]
      exact ih hr.2 hn
theorem ndAt_mem (f : NP → Nd) {l : List NP} (h : Rise (l.map NP.path)) {n : NP} (hn : n ∈ l) : ndAt f l n.path = f n := by
  unfold ndAt
  rw [fN_mem h hn]
  rfl
/-- as the code asks it -/
def holdsN (f : NP → Nd) (l : List NP) (p : ByteArray) : Bool := !decide ((ndAt f l p).kind = 2) && (insN l p).any fun q => !decide (q = p) && !decide ((ndAt f l q).kind = 0)
theorem holdsN_any (f : NP → Nd) {l : List NP} (h : Rise (l.map NP.path)) {m : NP} (hm : m ∈ l) : holdsN f l m.path = l.any fun n => !decide (n.path = m.path) && inQ m.path n.path && (!decide ((f m).kind = 2) && !decide ((f n).kind = 0)) := by
  unfold holdsN insN
  rw [ndAt_mem f h hm, Bool.eq_iff_iff]
  simp only [Bool.and_eq_true, List.any_eq_true, List.mem_filter, List.mem_map, Bool.not_eq_true', decide_eq_false_iff_not]
  constructor
  · rintro ⟨h1, q, ⟨⟨n, hn, rfl⟩, h2⟩, h3, h4⟩
    rw [ndAt_mem f h hn] at h4
    exact ⟨n, hn, ⟨h3, h2⟩, h1, h4⟩
  · rintro ⟨n, hn, ⟨h3, h2⟩, h1, h4⟩
    exact ⟨h1, n.path, ⟨⟨n, hn, rfl⟩, h2⟩, h3, by rw [ndAt_mem f h hn]; exact h4⟩
theorem bad_holds {l : List NP} (h : Rise (l.map NP.path)) {m : NP} (hm : m ∈ l) : (holdsN NP.left l m.path || holdsN NP.right l m.path) = badN l m := by
  rw [holdsN_any NP.left h hm, holdsN_any NP.right h hm, Bool.eq_iff_iff]
  unfold badN
  simp only [Bool.or_eq_true, List.any_eq_true, Bool.and_eq_true]
  constructor
  · rintro (⟨n, hn, h1, h2⟩ | ⟨n, hn, h1, h2⟩)
    · exact ⟨n, hn, h1, .inl h2⟩
    · exact ⟨n, hn, h1, .inr h2⟩
  · rintro ⟨n, hn, h1, h2 | h2⟩
    · exact .inl ⟨n, hn, h1, h2⟩
    · exact .inr ⟨n, hn, h1, h2⟩
end Sw
namespace Go.Proofs.YtnpehjgnplaabaaGreatDoor
open Go Go.RowKit
open Sw
theorem strRg (s t : ByteArray) : (s.toList == t.toList) = decide (s = t) := by
  rw [ByteArray.toList_eq, ByteArray.toList_eq]
  by_cases h : s = t
  · subst h
    rw [decide_eq_true rfl]
    simp
  · rw [decide_eq_false h, beq_eq_false_iff_ne]
    intro e
    exact h (ByteArray.ext (Array.ext' e))
theorem zeroNd (w : World) : (zeroValue 57).run Tryz.prog w = .ok (.agg #[.int .i64 0, .int .i64 0, .int .u32 0, .string ⟨#[]⟩]) w := by kernel_rfl
theorem ndField0 (w : World) (a b c d : Value) : (Instr.field 57 (.agg #[a, b, c, d]) 0).run Tryz.prog w = .ok a w := by kernel_rfl
set_option maxRecDepth 100000 in
theorem inside1R_any (w : World) (g : Nat) (p q : ByteArray) (hq : q.size ≤ 90000) (hg : Blk w g 9 #[.string p]) :
    Calls Tryz.prog 96 #[.string q, .pointer (some ⟨g, 0, none⟩)] w fun e w' => e = .returned (.bool (!inQ p q)) ∧ Below w.heap.size w w' := by
  have HU := Lib.hid (under_any w p q hq)
  have x0 := hg.cell 0
  simp only [List.getElem?_toArray, List.getElem?_cons_zero] at x0
  have hs := strRg q p
  have hi : (!inQ p q) = (!decide (q = p) && !inS (upsS q) p) := by
    unfold inQ
    rw [Bool.not_or, show decide (p = q) = decide (q = p) from by simp [eq_comm]]
  rw [hi]
  clear hg hi
  generalize inS (upsS q) p = U at *
  generalize decide (q = p) = D at *
  cases D with
  | true =>
    go_enter Tryz.func96, Tryz.ntmps96
    go_wp2_with fail
    go_ret
    exact ⟨rfl, Below.refl _ _⟩
  | false =>
    go_enter Tryz.func96, Tryz.ntmps96
    go_wp2_with fail
    refine HU.out.mono ?_
    rintro e w1 ⟨rfl, hb1⟩
    have H1 := Lib.hid hb1
    clear hb1 x0 HU
    go_wp2_with fail
    go_ret
    exact ⟨by simp, H1.out⟩
set_option maxRecDepth 100000 in
set_option maxHeartbeats 4000000 in
theorem regInside_any (w : World) (gs bt bt2 m0 m1 mc : Nat) (policy : Int) (pv gv : Value) (ps : List ByteArray) (p : ByteArray)
    (hbox : Blk w gs 76 #[.pointer (some ⟨bt, 0, none⟩), .pointer (some ⟨bt2, 0, none⟩), .int .i64 policy, pv, .map (some m0), .map (some m1), .map (some mc), gv])
    (hv : SlV w 1 sE pv ps) (hn : ps.length ≤ 10000) (hz : ∀ q ∈ ps, q.size ≤ 90000) :
    Calls Tryz.prog 58 #[.pointer (some ⟨gs, 0, none⟩), .string p] w fun e w' => ∃ u, e = .returned u ∧ w'.ownsRow w.heap.size 9 1 u (ps.filter (inQ p)).length ((ps.filter (inQ p)).flatMap sE) ∧ Below w.heap.size w w' := by
  have hb : Below w.heap.size w (w.alloc (.cells #[.string p] 9)) := (Below.refl _ w).alloc (Nat.le_refl _) _
  have hB := Blk.new w 9 #[Value.string p]
  obtain ⟨W, hW⟩ : ∃ W, w.alloc (.cells #[.string p] 9) = W := ⟨_, rfl⟩
  rw [hW] at hb hB
  have HCL := Lib.hid (slCloneST_any sE sE_lenP sE_oneP W pv ps (hv.below hb (Nat.le_refl _)) (by omega))
  have hbW := hbox.below hb hbox.lt
  have x2 := hbW.cell 3
  simp only [List.getElem?_toArray, List.getElem?_cons_succ, List.getElem?_cons_zero] at x2
  have HB := Lib.hid (And.intro hb (And.intro hB hv))
  have HW := Lib.hid hW
  have HZ := Lib.hid hz
  obtain ⟨A, c, rfl, _, _, _⟩ := hv
  clear hb hB hW hz hbW hbox
  obtain ⟨n, hnl⟩ : ∃ n, ps.length = n := ⟨_, rfl⟩
  have HN := Lib.hid hnl
  rw [hnl] at HCL HB x2 hn
  clear hnl
  go_enter Tryz.func58, Tryz.ntmps58
  go_upto_region 1 with fail
  rw [HW.out]
  go_wp2_with fail
  refine HCL.out.mono ?_
  rintro e w1 ⟨u, rfl, ho, hb1⟩
  have ho' : w1.ownsRow W.heap.size 9 1 u ps.length (ps.flatMap sE) := by rw [HN.out]; exact ho
  have hlg : ∀ k, u.ownBlock = some k → W.heap.size ≤ k := fun k hk => (ho'.lt k hk).1
  have HD := Lib.hid (slDelFuncTP_any (fun q => !inQ p q) (fun V => Below W.heap.size W V) w1 W.heap.size u ps ho' (fun V V' h hg => h.grown hg h.size (fun k hk => hlg k hk)) w.heap.size (by rw [HN.out]; omega) hb1 (fun V x hx h => inside1R_any V w.heap.size p x (HZ.out x hx) (HB.out.2.1.below h HB.out.2.1.lt)))
  have HL := Lib.hid (And.intro (HB.out.1.trans (hb1.mono HB.out.1.size)) (And.intro hlg HB.out.1.size))
  obtain ⟨A2, c2, rfl, _, _, _⟩ := SlV_of_any ho
  clear ho ho' hlg hb1 x2 HCL
  go_wp2_with fail
  refine HD.out.mono ?_
  rintro e w2 ⟨v2, rfl, ho2, hg2, hr2⟩
  have hfl : (ps.filter fun x => !(!inQ p x)) = ps.filter (inQ p) := by simp
  rw [hfl] at ho2
  have hb2 := HL.out.1.grown hg2 HL.out.1.size (fun k hk => Nat.le_trans HL.out.2.2 (HL.out.2.1 k hk))
  have HF := Lib.hid (And.intro (own_wide ho2 HL.out.2.2) hb2)
  obtain ⟨A3, c3, rfl, _, _, _⟩ := SlV_of_any ho2
  clear ho2 hg2 hr2 hb2 hfl HD
  obtain ⟨k, hk⟩ : ∃ k, (ps.filter (inQ p)).length = k := ⟨_, rfl⟩
  rw [hk] at HF ⊢
  have HKK := Lib.hid hk
  clear hk
  go_wp2_with fail
  go_ret
  exact ⟨.slice A3 k c3, rfl, by rw [HKK.out]; exact HF.out.1, HF.out.2⟩
set_option maxRecDepth 100000 in
set_option maxHeartbeats 4000000 in
theorem bad11_any (w : World) (gp gn m N : Nat) (p q : ByteArray) (f : NP → Nd) (l : List NP) (hp : Blk w gp 9 #[.string p]) (hn : Blk w gn 73 #[.map (some m)]) (hm : MapV w Tryz.prog 9 litT okT m N (lkN f l)) (hq : q.size ≤ 90000) :
    Calls Tryz.prog 60 #[.string q, .pointer (some ⟨gp, 0, none⟩), .pointer (some ⟨gn, 0, none⟩)] w fun e w' => e = .returned (.bool (!decide (q = p) && !decide ((ndAt f l q).kind = 0))) ∧ w' = w := by
  have hqk : okT q := Nat.le_trans hq (by unfold maxLen; omega)
  have x0 := hp.cell 0
  have x1 := hn.cell 0
  simp only [List.getElem?_toArray, List.getElem?_cons_zero] at x0 x1
  have hs := strRg q p
  have hlk := hm.look (keyStr Tryz.underlying9) Tryz.underlying73 (zeroNd w) hqk
  rw [lkN_getD] at hlk
  have hf0 := ndField0
  obtain ⟨⟨ka, kb, kc, kd⟩, hnd⟩ : ∃ n, ndAt f l q = n := ⟨_, rfl⟩
  rw [hnd] at hlk ⊢
  simp only [Nd.c] at hlk
  clear hp hn hm hnd
  generalize decide (q = p) = D at *
  cases D with
  | true =>
    go_enter Tryz.func60, Tryz.ntmps60
    go_wp2_with fail
    go_ret
    exact ⟨rfl, rfl⟩
  | false =>
    by_cases hk : ka = 0
    · subst hk
      go_enter Tryz.func60, Tryz.ntmps60
      go_wp2_with fail
      go_ret
      exact ⟨rfl, rfl⟩
    · have t0 : (ka != 0) = true := by simpa using hk
      have HD := Lib.hid (show (!false && !decide (ka = 0)) = true by rw [decide_eq_false hk]; rfl)
      clear hk
      go_enter Tryz.func60, Tryz.ntmps60
      go_wp2_with fail
      go_ret
      exact ⟨by rw [HD.out]; rfl, rfl⟩
set_option maxRecDepth 100000 in
set_option maxHeartbeats 4000000 in
theorem bad1_any (w : World) (gp gu m N : Nat) (p : ByteArray) (u : Value) (U : List ByteArray) (f : NP → Nd) (l : List NP) (hp : Blk w gp 9 #[.string p]) (hgu : Blk w gu 34 #[u]) (hu : SlV w 1 sE u U) (hun : U.length ≤ 1000000) (hm : MapV w Tryz.prog 9 litT okT m N (lkN f l)) (hps : p.size ≤ 90000) (hz : ∀ q ∈ U, q.size ≤ 90000) :
    Calls Tryz.prog 59 #[.map (some m), .pointer (some ⟨gp, 0, none⟩), .pointer (some ⟨gu, 0, none⟩)] w fun e w' => e = .returned (.bool (!decide ((ndAt f l p).kind = 2) && U.any fun q => !decide (q = p) && !decide ((ndAt f l q).kind = 0))) ∧ Below w.heap.size w w' := by
  have hpk : okT p := Nat.le_trans hps (by unfold maxLen; omega)
  have hb : Below w.heap.size w (w.alloc (.cells #[.map (some m)] 73)) := (Below.refl _ w).alloc (Nat.le_refl _) _
  have hB := Blk.new w 73 #[.map (some m)]
  obtain ⟨W, hW⟩ : ∃ W, w.alloc (.cells #[.map (some m)] 73) = W := ⟨_, rfl⟩
  rw [hW] at hb hB
  have hpW := hp.below hb hp.lt
  have hgW := hgu.below hb hgu.lt
  have hmW := hm.below hb hm.lt
  have x0 := hpW.cell 0
  have x1 := hB.cell 0
  have x2 := hgW.cell 0
  simp only [List.getElem?_toArray, List.getElem?_cons_zero] at x0 x1 x2
  have hlk := hmW.look (keyStr Tryz.underlying9) Tryz.underlying73 (zeroNd W) hpk
  rw [lkN_getD] at hlk
  have hf0 := ndField0
  have HC := Lib.hid (conBD_any (fun q => !decide (q = p) && !decide ((ndAt f l q).kind = 0)) (fun V => Blk V gp 9 #[.string p] ∧ Blk V w.heap.size 73 #[.map (some m)] ∧ MapV V Tryz.prog 9 litT okT m N (lkN f l)) (fun V V' h hg => ⟨h.1.grown hg (by simp), h.2.1.grown hg (by simp), h.2.2.kept hg (by simp)⟩) W u gp w.heap.size U (hu.below hb (Nat.le_refl _)) hun ⟨hpW, hB, hmW⟩ (fun V x hx h => (bad11_any V gp w.heap.size m N p x f l h.1 h.2.1 h.2.2 (hz x hx)).mono (by rintro e w2 ⟨rfl, rfl⟩; exact ⟨rfl, Below.refl _ _⟩)))
  have HB := Lib.hid hb
  have HW := Lib.hid hW
  obtain ⟨⟨ka, kb, kc, kd⟩, hnd⟩ : ∃ n, ndAt f l p = n := ⟨_, rfl⟩
  rw [hnd] at hlk ⊢
  simp only [Nd.c] at hlk
  obtain ⟨A, c, rfl, _, _, _⟩ := hu
  clear hp hgu hm hnd hb hB hW hpW hgW hmW hz
  generalize (U.any fun q => !decide (q = p) && !decide ((ndAt f l q).kind = 0)) = R at *
  generalize U.length = n at *
  by_cases hk : ka = 2
  · subst hk
    go_enter Tryz.func59, Tryz.ntmps59
    go_upto_region 1 with fail
    rw [HW.out]
    go_wp2_with fail
    go_ret
    exact ⟨rfl, HB.out⟩
  · have t0 : (ka != 2) = true := by simpa using hk
    have HD := Lib.hid (show (!decide (ka = 2) && R) = R by rw [decide_eq_false hk]; rfl)
    clear hk
    go_enter Tryz.func59, Tryz.ntmps59
    go_upto_region 1 with fail
    rw [HW.out]
    go_wp2_with fail
    refine HC.out.mono ?_
    rintro e w1 ⟨rfl, hb1⟩
    have H1 := Lib.hid (HB.out.trans (hb1.mono HB.out.size))
    clear hb1 hlk x0 x1 x2 HC
    go_wp2_with fail
    go_ret
    exact ⟨by rw [HD.out]; rfl, H1.out⟩
set_option maxRecDepth 100000 in
set_option maxHeartbeats 8000000 in
theorem regBad_any (w : World) (gs bt bt2 m0 m1 mc N : Nat) (policy : Int) (pv gv : Value) (l : List NP) (p : ByteArray)
    (hbox : Blk w gs 76 #[.pointer (some ⟨bt, 0, none⟩), .pointer (some ⟨bt2, 0, none⟩), .int .i64 policy, pv, .map (some m0), .map (some m1), .map (some mc), gv])
    (hv : SlV w 1 sE pv (l.map NP.path)) (hn : l.length ≤ 10000) (hz : ∀ q ∈ l.map NP.path, q.size ≤ 90000) (hps : p.size ≤ 90000) (hA : MapV w Tryz.prog 9 litT okT m0 N (lkN NP.left l)) (hB : MapV w Tryz.prog 9 litT okT m1 N (lkN NP.right l)) :
    Calls Tryz.prog 27 #[.pointer (some ⟨gs, 0, none⟩), .string p] w fun e w' => e = .returned (.bool (holdsN NP.left l p || holdsN NP.right l p)) ∧ Below w.heap.size w w' := by
  have hb : Below w.heap.size w (w.alloc (.cells #[.string p] 9)) := (Below.refl _ w).alloc (Nat.le_refl _) _
  have hG := Blk.new w 9 #[Value.string p]
  obtain ⟨W, hW⟩ : ∃ W, w.alloc (.cells #[.string p] 9) = W := ⟨_, rfl⟩
  rw [hW] at hb hG
  have hbW := hbox.below hb hbox.lt
  have HI := Lib.hid (regInside_any W gs bt bt2 m0 m1 mc policy pv gv (l.map NP.path) p hbW (hv.below hb (Nat.le_refl _)) (by rw [List.length_map]; exact hn) hz)
  have hfl : (l.map NP.path).filter (inQ p) = insN l p := rfl
  rw [hfl] at HI
  have hil : (insN l p).length ≤ 10000 := by unfold insN; exact Nat.le_trans (List.length_filter_le _ _) (by rw [List.length_map]; exact hn)
  have hiz : ∀ q ∈ insN l p, q.size ≤ 90000 := fun q hq => hz q ((List.mem_filter.1 hq).1)
  have HZ := Lib.hid (And.intro hil (And.intro hiz hps))
  have x0 := hG.cell 0
  simp only [List.getElem?_toArray, List.getElem?_cons_zero] at x0
  have H0 := Lib.hid (And.intro hb (And.intro hG (And.intro hbW (And.intro (hA.below hb hA.lt) (hB.below hb hB.lt)))))
  have HW := Lib.hid hW
  obtain ⟨R0, hR0⟩ : ∃ r, holdsN NP.left l p = r := ⟨_, rfl⟩
  obtain ⟨R1, hR1⟩ : ∃ r, holdsN NP.right l p = r := ⟨_, rfl⟩
  rw [hR0, hR1]
  have HR := Lib.hid (And.intro hR0 hR1)
  clear hb hG hW hbW hbox hv hA hB hz hil hiz hR0 hR1 hfl
  go_enter Tryz.func27, Tryz.ntmps27
  go_upto_region 1 with fail
  rw [HW.out]
  go_wp2_with fail
  refine HI.out.mono ?_
  rintro e w1 ⟨u, rfl, ho, hb1⟩
  obtain ⟨V, hV⟩ : ∃ V, w1.alloc (.cells #[u] 34) = V := ⟨_, rfl⟩
  obtain ⟨gu, hgu⟩ : ∃ g, w1.heap.size = g := ⟨_, rfl⟩
  have hbV : Below w1.heap.size w1 V := by rw [← hV]; exact (Below.refl _ w1).alloc (Nat.le_refl _) _
  have hBu : Blk V gu 34 #[u] := by rw [← hV, ← hgu]; exact Blk.new _ _ _
  have hWV : Below W.heap.size W V := hb1.trans (hbV.mono hb1.size)
  have hoV := own_kept ho hbV
  have HH := Lib.hid (fun (f : NP → Nd) (m : Nat) V' (h : Below V.heap.size V V') (hm : MapV W Tryz.prog 9 litT okT m N (lkN f l)) => bad1_any V' w.heap.size gu m N p u (insN l p) f l ((H0.out.2.1.below hWV H0.out.2.1.lt).below h (H0.out.2.1.below hWV H0.out.2.1.lt).lt) (hBu.below h hBu.lt) ((SlV.of_own hoV sE_lenP (by decide)).below h (Nat.le_refl _)) (by have := HZ.out.1; omega) ((hm.below hWV hm.lt).below h (hm.below hWV hm.lt).lt) HZ.out.2.2 HZ.out.2.1)
  have hbxV := H0.out.2.2.1.below hWV H0.out.2.2.1.lt
  have y4 := hbxV.cell 4
  have y5 := hbxV.cell 5
  simp only [List.getElem?_toArray, List.getElem?_cons_succ, List.getElem?_cons_zero] at y4 y5
  have H1 := Lib.hid (And.intro (H0.out.1.trans (hWV.mono H0.out.1.size)) hbxV)
  have h0 := HH.out NP.left m0 V (Below.refl _ _) H0.out.2.2.2.1
  rw [show (!decide ((ndAt NP.left l p).kind = 2) && (insN l p).any fun q => !decide (q = p) && !decide ((ndAt NP.left l q).kind = 0)) = R0 from HR.out.1] at h0
  have HL := Lib.hid h0
  obtain ⟨A2, c2, rfl, _, _, _⟩ := SlV_of_any ho
  clear ho hoV hb1 hbV hBu hWV hbxV x0 HI h0
  generalize (insN l p).length = k at *
  go_wp2_with fail
  clear hV hgu
  refine HL.out.mono ?_
  rintro e w2 ⟨rfl, hb2⟩
  have hbx2 := H1.out.2.below hb2 H1.out.2.lt
  have z4 := hbx2.cell 4
  have z5 := hbx2.cell 5
  simp only [List.getElem?_toArray, List.getElem?_cons_succ, List.getElem?_cons_zero] at z4 z5
  have H2 := Lib.hid (And.intro (H1.out.1.trans (hb2.mono H1.out.1.size)) hb2)
  clear hb2 hbx2 y4 y5 HL
  cases R0 with
  | true =>
    go_wp2_with fail
    go_ret
    exact ⟨rfl, H2.out.1⟩
  | false =>
    have h1 := HH.out NP.right m1 w2 H2.out.2 H0.out.2.2.2.2
    rw [show (!decide ((ndAt NP.right l p).kind = 2) && (insN l p).any fun q => !decide (q = p) && !decide ((ndAt NP.right l q).kind = 0)) = R1 from HR.out.2] at h1
    have HL := Lib.hid h1
    clear h1
    go_wp2_with fail
    refine HL.out.mono ?_
    rintro e w3 ⟨rfl, hb3⟩
    have H3 := Lib.hid (H2.out.1.trans (hb3.mono H2.out.1.size))
    clear hb3 HL
    go_wp2_with fail
    go_ret
    exact ⟨rfl, H3.out⟩
end Go.Proofs.YtnpehjgnplaabaaGreatDoor
