/- Several texts, joined for the limit of sixty files; each one opens with its own comment. -/
import Derived.Test.YtihiakkeloejlaaGreatDoorJoin25
import Derived.RegionTactic
import Derived.BigRegion
import Derived.Test.YtihiakkeloejlaaGreatDoorJoin29
/- slices.IndexFunc, ContainsFunc of a row of changes, by diff.Of's two predicates. -/
set_option linter.unusedVariables false
set_option linter.unusedSimpArgs false
namespace Go.Proofs.YtihiakkeloejlaaGreatDoor
open Go Go.RowKit
open Sw
theorem str41 (s t : ByteArray) : (s.toList == t.toList) = decide (s = t) := by
  rw [ByteArray.toList_eq, ByteArray.toList_eq]
  by_cases h : s = t
  · subst h
    rw [decide_eq_true rfl]
    simp
  · rw [decide_eq_false h, beq_eq_false_iff_ne]
    intro e
    exact h (ByteArray.ext (Array.ext' e))
def IdxPostCA {α : Type} (p : α → Bool) (l : List α) (w : World) (e : Ending) (w' : World) : Prop :=
  ((∃ i : Nat, ∃ h : i < l.length, (∀ m (h : m < l.length), m < i → p l[m] = false) ∧ p l[i] = true ∧ e = .returned (.int .i64 i)) ∨ ((∀ x ∈ l, p x = false) ∧ e = .returned (.int .i64 (-1)))) ∧ Below w.heap.size w w'
set_option maxRecDepth 100000 in
set_option maxHeartbeats 4000000 in
theorem slIndexFuncCA_any (p : Int × ByteArray × ByteArray → Bool) (r0 : Option Nat) (C : World → Prop) (hC : ∀ W W', C W → W.grownBy W' r0 → C W') (w : World) (A : Option Addr) (n c g : Nat) (l : List (Int × ByteArray × ByteArray)) (hl : l.length = n) (hn : n ≤ 1000000) (hsl : SlOf w 3 eCC A l) (h0 : C w)
    (hcall : ∀ W x, x ∈ l → C W → Calls Tryz.prog 27 #[.agg (eCC x).toArray, .pointer (some ⟨g, 0, none⟩)] W fun e w' => e = .returned (.bool (p x)) ∧ Below W.heap.size W w') :
    Calls Tryz.prog 26 #[.slice A n c, .func (.func 27) #[] #[.pointer (some ⟨g, 0, none⟩)]] w (IdxPostCA p l w) := by
  have HS := Lib.hid hsl; clear hsl
  have HL := Lib.hid hl; clear hl
  have HC := Lib.hid hC; clear hC
  have HCL := Lib.hid hcall; clear hcall
  have H0 := Lib.hid h0; clear h0
  go_enter Tryz.func26, Tryz.ntmps26
  go_wp2_with fail
  go_loopw [8] (fun iv wr => ∃ i : Nat, i ≤ n ∧ iv = .int .i64 i ∧ (∀ m (h : m < l.length), m < i → p l[m] = false) ∧ Below w.heap.size w wr) (fun iv _ => n - (intOf iv).toNat)
  case atStart => exact ⟨0, Nat.zero_le _, rfl, fun m h h' => absurd h' (Nat.not_lt_zero _), Below.refl _ _⟩
  case round =>
    obtain ⟨i, hin, rfl, hno, hbr⟩ := hrel
    have HNO := Lib.hid hno; clear hno
    by_cases hlt : i < n
    · have hiL : i < l.length := by have := HL.out; omega
      obtain ⟨b, off, rfl, hbb, _⟩ := (HS.out.below hbr (Nat.le_refl _)) (by omega)
      have HR := Lib.hid ((HS.out.below hbr (Nat.le_refl _)).range eCC_len i hiL)
      have HF := Lib.hid (HCL.out wr l[i] (List.getElem_mem hiL) (HC.out w wr H0.out (grown_below hbr)))
      have HYES := Lib.hid (fun (hp : p l[i] = true) w' (hb : Below w.heap.size w w') => (⟨.inl ⟨i, hiL, HNO.out, hp, rfl⟩, hb⟩ : IdxPostCA p l w (.returned (.int .i64 i)) w'))
      have HNO2 := Lib.hid (fun (hp : p l[i] = false) m (hm : m < l.length) (hmi : m < i + 1) => (by
        by_cases e : m = i
        · subst e; exact hp
        · exact HNO.out m hm (by omega) : p l[m] = false))
      have HX := Lib.hid (eCC_len l[i])
      generalize p l[i] = pv at *
      generalize eCC l[i] = ev at *
      have q2 : (i : Int) < n := by omega
      cases pv with
      | true =>
        have hyes := HYES.out rfl
        have HYES2 := Lib.hid hyes; clear hyes HYES HNO2
        go_wp2_with (refine wpList_load_mid rfl 40 (.tmp 14) rfl b (off + i * 3) rfl ev _ HR.out Tryz.underlying40 rfl (by rw [HX.out]; kernel_rfl) ?_)
        refine HF.out.mono ?_
        rintro e w2 ⟨rfl, hb2⟩
        have HP := Lib.hid (HYES2.out w2 (hbr.trans (hb2.mono hbr.size)))
        clear HR HF HNO
        go_wp2_with fail
        go_ret
        exact HP.out
      | false =>
        have hno2 := HNO2.out rfl
        have HNO3 := Lib.hid hno2; clear hno2 HYES HNO2
        go_wp2_with (refine wpList_load_mid rfl 40 (.tmp 14) rfl b (off + i * 3) rfl ev _ HR.out Tryz.underlying40 rfl (by rw [HX.out]; kernel_rfl) ?_)
        refine HF.out.mono ?_
        rintro e w2 ⟨rfl, hb2⟩
        have HP := Lib.hid (And.intro HNO3.out (hbr.trans (hb2.mono hbr.size)))
        clear HR HF HNO
        go_wp2_with fail
        go_roundw
        case rel => exact ⟨i + 1, by omega, by go_num, HP.out.1, HP.out.2⟩
        case measure => simp [intOf]; omega
    · obtain rfl : i = n := by omega
      have hpst : IdxPostCA p l w (.returned (.int .i64 (-1))) wr := ⟨.inr ⟨fun x hx => by
        obtain ⟨m, hm, rfl⟩ := List.mem_iff_getElem.1 hx
        exact HNO.out m hm (by have := HL.out; omega), rfl⟩, hbr⟩
      have HP := Lib.hid hpst; clear hpst
      go_wp2_with fail
      go_ret
      exact HP.out
def IdxPostCB {α : Type} (p : α → Bool) (l : List α) (w : World) (e : Ending) (w' : World) : Prop :=
  ((∃ i : Nat, ∃ h : i < l.length, (∀ m (h : m < l.length), m < i → p l[m] = false) ∧ p l[i] = true ∧ e = .returned (.int .i64 i)) ∨ ((∀ x ∈ l, p x = false) ∧ e = .returned (.int .i64 (-1)))) ∧ Below w.heap.size w w'
set_option maxRecDepth 100000 in
set_option maxHeartbeats 4000000 in
theorem slIndexFuncCB_any (p : Int × ByteArray × ByteArray → Bool) (r0 : Option Nat) (C : World → Prop) (hC : ∀ W W', C W → W.grownBy W' r0 → C W') (w : World) (A : Option Addr) (n c g : Nat) (l : List (Int × ByteArray × ByteArray)) (hl : l.length = n) (hn : n ≤ 1000000) (hsl : SlOf w 3 eCC A l) (h0 : C w)
    (hcall : ∀ W x, x ∈ l → C W → Calls Tryz.prog 29 #[.agg (eCC x).toArray, .pointer (some ⟨g, 0, none⟩)] W fun e w' => e = .returned (.bool (p x)) ∧ Below W.heap.size W w') :
    Calls Tryz.prog 26 #[.slice A n c, .func (.func 29) #[] #[.pointer (some ⟨g, 0, none⟩)]] w (IdxPostCB p l w) := by
  have HS := Lib.hid hsl; clear hsl
  have HL := Lib.hid hl; clear hl
  have HC := Lib.hid hC; clear hC
  have HCL := Lib.hid hcall; clear hcall
  have H0 := Lib.hid h0; clear h0
  go_enter Tryz.func26, Tryz.ntmps26
  go_wp2_with fail
  go_loopw [8] (fun iv wr => ∃ i : Nat, i ≤ n ∧ iv = .int .i64 i ∧ (∀ m (h : m < l.length), m < i → p l[m] = false) ∧ Below w.heap.size w wr) (fun iv _ => n - (intOf iv).toNat)
  case atStart => exact ⟨0, Nat.zero_le _, rfl, fun m h h' => absurd h' (Nat.not_lt_zero _), Below.refl _ _⟩
  case round =>
    obtain ⟨i, hin, rfl, hno, hbr⟩ := hrel
    have HNO := Lib.hid hno; clear hno
    by_cases hlt : i < n
    · have hiL : i < l.length := by have := HL.out; omega
      obtain ⟨b, off, rfl, hbb, _⟩ := (HS.out.below hbr (Nat.le_refl _)) (by omega)
      have HR := Lib.hid ((HS.out.below hbr (Nat.le_refl _)).range eCC_len i hiL)
      have HF := Lib.hid (HCL.out wr l[i] (List.getElem_mem hiL) (HC.out w wr H0.out (grown_below hbr)))
      have HYES := Lib.hid (fun (hp : p l[i] = true) w' (hb : Below w.heap.size w w') => (⟨.inl ⟨i, hiL, HNO.out, hp, rfl⟩, hb⟩ : IdxPostCB p l w (.returned (.int .i64 i)) w'))
      have HNO2 := Lib.hid (fun (hp : p l[i] = false) m (hm : m < l.length) (hmi : m < i + 1) => (by
        by_cases e : m = i
        · subst e; exact hp
        · exact HNO.out m hm (by omega) : p l[m] = false))
      have HX := Lib.hid (eCC_len l[i])
      generalize p l[i] = pv at *
      generalize eCC l[i] = ev at *
      have q2 : (i : Int) < n := by omega
      cases pv with
      | true =>
        have hyes := HYES.out rfl
        have HYES2 := Lib.hid hyes; clear hyes HYES HNO2
        go_wp2_with (refine wpList_load_mid rfl 40 (.tmp 14) rfl b (off + i * 3) rfl ev _ HR.out Tryz.underlying40 rfl (by rw [HX.out]; kernel_rfl) ?_)
        refine HF.out.mono ?_
        rintro e w2 ⟨rfl, hb2⟩
        have HP := Lib.hid (HYES2.out w2 (hbr.trans (hb2.mono hbr.size)))
        clear HR HF HNO
        go_wp2_with fail
        go_ret
        exact HP.out
      | false =>
        have hno2 := HNO2.out rfl
        have HNO3 := Lib.hid hno2; clear hno2 HYES HNO2
        go_wp2_with (refine wpList_load_mid rfl 40 (.tmp 14) rfl b (off + i * 3) rfl ev _ HR.out Tryz.underlying40 rfl (by rw [HX.out]; kernel_rfl) ?_)
        refine HF.out.mono ?_
        rintro e w2 ⟨rfl, hb2⟩
        have HP := Lib.hid (And.intro HNO3.out (hbr.trans (hb2.mono hbr.size)))
        clear HR HF HNO
        go_wp2_with fail
        go_roundw
        case rel => exact ⟨i + 1, by omega, by go_num, HP.out.1, HP.out.2⟩
        case measure => simp [intOf]; omega
    · obtain rfl : i = n := by omega
      have hpst : IdxPostCB p l w (.returned (.int .i64 (-1))) wr := ⟨.inr ⟨fun x hx => by
        obtain ⟨m, hm, rfl⟩ := List.mem_iff_getElem.1 hx
        exact HNO.out m hm (by have := HL.out; omega), rfl⟩, hbr⟩
      have HP := Lib.hid hpst; clear hpst
      go_wp2_with fail
      go_ret
      exact HP.out
set_option maxRecDepth 100000 in
/-- the predicate: does a move speak of the change in the box? -/
theorem predCA_any (w : World) (g : Nat) (k : Int) (p fr : ByteArray) (m : OfE) (hg : Blk w g 40 #[.int .i64 k, .string p, .string fr]) :
    Calls Tryz.prog 27 #[.agg (eCC m).toArray, .pointer (some ⟨g, 0, none⟩)] w fun e w' => e = .returned (.bool (decide (k = 1 ∧ m.2.1 = p))) ∧ Below w.heap.size w w' := by
  obtain ⟨mk, m1, m2⟩ := m
  have hb0 : Below w.heap.size w (w.alloc (.cells #[.int .i64 mk, .string m1, .string m2] 40)) := (Below.refl _ w).alloc (Nat.le_refl _) _
  have hG := hg.below hb0 hg.lt
  have hM := Blk.new w 40 #[.int .i64 mk, .string m1, .string m2]
  have HB := Lib.hid (And.intro hb0 hg.lt)
  obtain ⟨w1, hw1⟩ : ∃ w1, w.alloc (.cells #[.int .i64 mk, .string m1, .string m2] 40) = w1 := ⟨_, rfl⟩
  rw [hw1] at hb0 hG hM HB
  have HB1 := Lib.hid hb0
  have HW := Lib.hid hw1
  have x0 := hG.cell 0
  have x1 := hG.cell 1
  have y1 := hM.cell 1
  simp only [List.getElem?_toArray, List.getElem?_cons_succ, List.getElem?_cons_zero] at x0 x1 y1
  simp only [eCC]
  clear hb0 hG hM hg hw1
  by_cases hk : k = 1
  · subst hk
    have he : decide ((1 : Int) = 1 ∧ m1 = p) = (m1.toList == p.toList) := by
      rw [str41]
      simp
    rw [he]
    go_enter Tryz.func27, Tryz.ntmps27
    go_upto_region 1 with fail
    rw [HW.out]
    go_wp2_with fail
    go_ret
    exact ⟨rfl, HB1.out⟩
  · have he : decide (k = 1 ∧ m1 = p) = false := by simp [hk]
    have t0 : (k == 1) = false := by simpa using hk
    rw [he]
    go_enter Tryz.func27, Tryz.ntmps27
    go_upto_region 1 with fail
    rw [HW.out]
    go_wp2_with fail
    go_ret
    exact ⟨rfl, HB1.out⟩
set_option maxRecDepth 100000 in
/-- the predicate: does a move speak of the change in the box? -/
theorem predCB_any (w : World) (g : Nat) (k : Int) (p fr : ByteArray) (m : OfE) (hg : Blk w g 40 #[.int .i64 k, .string p, .string fr]) :
    Calls Tryz.prog 29 #[.agg (eCC m).toArray, .pointer (some ⟨g, 0, none⟩)] w fun e w' => e = .returned (.bool (decide (k = 2 ∧ m.2.2 = p))) ∧ Below w.heap.size w w' := by
  obtain ⟨mk, m1, m2⟩ := m
  have hb0 : Below w.heap.size w (w.alloc (.cells #[.int .i64 mk, .string m1, .string m2] 40)) := (Below.refl _ w).alloc (Nat.le_refl _) _
  have hG := hg.below hb0 hg.lt
  have hM := Blk.new w 40 #[.int .i64 mk, .string m1, .string m2]
  have HB := Lib.hid (And.intro hb0 hg.lt)
  obtain ⟨w1, hw1⟩ : ∃ w1, w.alloc (.cells #[.int .i64 mk, .string m1, .string m2] 40) = w1 := ⟨_, rfl⟩
  rw [hw1] at hb0 hG hM HB
  have HB1 := Lib.hid hb0
  have HW := Lib.hid hw1
  have x0 := hG.cell 0
  have x1 := hG.cell 1
  have y2 := hM.cell 2
  simp only [List.getElem?_toArray, List.getElem?_cons_succ, List.getElem?_cons_zero] at x0 x1 y2
  simp only [eCC]
  clear hb0 hG hM hg hw1
  by_cases hk : k = 2
  · subst hk
    have he : decide ((2 : Int) = 2 ∧ m2 = p) = (m2.toList == p.toList) := by
      rw [str41]
      simp
    rw [he]
    go_enter Tryz.func29, Tryz.ntmps29
    go_upto_region 1 with fail
    rw [HW.out]
    go_wp2_with fail
    go_ret
    exact ⟨rfl, HB1.out⟩
  · have he : decide (k = 2 ∧ m2 = p) = false := by simp [hk]
    have t0 : (k == 2) = false := by simpa using hk
    rw [he]
    go_enter Tryz.func29, Tryz.ntmps29
    go_upto_region 1 with fail
    rw [HW.out]
    go_wp2_with fail
    go_ret
    exact ⟨rfl, HB1.out⟩
end Go.Proofs.YtihiakkeloejlaaGreatDoor
/- Which move speaks of a change: slices.IndexFunc, ContainsFunc as diff.Of calls them. -/
set_option linter.unusedVariables false
set_option linter.unusedSimpArgs false
namespace Go.Proofs.YtihiakkeloejlaaGreatDoor
open Go Go.RowKit
open Sw
set_option maxRecDepth 100000 in
theorem index41_any (w : World) (v : Value) (g : Nat) (l : List OfE) (hv : SlV w 3 eCC v l) (hn : l.length ≤ 100000) (k : Int) (p fr : ByteArray) (hg : Blk w g 40 #[.int .i64 k, .string p, .string fr]) :
    Calls Tryz.prog 26 #[v, .func (.func 27) #[] #[.pointer (some ⟨g, 0, none⟩)]] w (IdxPostCA (fun m => decide (k = 1 ∧ m.2.1 = p)) l w) := by
  obtain ⟨A, c, rfl, _, _, hsl⟩ := hv
  exact slIndexFuncCA_any (fun m => decide (k = 1 ∧ m.2.1 = p)) none (fun W => Blk W g 40 #[.int .i64 k, .string p, .string fr]) (fun W W' h hgr => h.grown hgr (by simp)) w A l.length c g l rfl (by omega) hsl hg (fun W x _ h => predCA_any W g k p fr x h)
set_option maxRecDepth 100000 in
theorem contains41_any (w : World) (v : Value) (g : Nat) (l : List OfE) (hv : SlV w 3 eCC v l) (hn : l.length ≤ 100000) (k : Int) (p fr : ByteArray) (hg : Blk w g 40 #[.int .i64 k, .string p, .string fr]) :
    Calls Tryz.prog 28 #[v, .func (.func 29) #[] #[.pointer (some ⟨g, 0, none⟩)]] w fun e w' => e = .returned (.bool (l.any fun m => decide (k = 2 ∧ m.2.2 = p))) ∧ Below w.heap.size w w' := by
  obtain ⟨A, c, rfl, _, _, hsl⟩ := hv
  have HI := Lib.hid (slIndexFuncCB_any (fun m => decide (k = 2 ∧ m.2.2 = p)) none (fun W => Blk W g 40 #[.int .i64 k, .string p, .string fr]) (fun W W' h hgr => h.grown hgr (by simp)) w A l.length c g l rfl (by omega) hsl hg (fun W x _ h => predCB_any W g k p fr x h))
  clear hsl hg
  generalize hz : l.length = n at *
  have HZ := Lib.hid hz; clear hz
  go_enter Tryz.func28, Tryz.ntmps28
  go_wp2_with fail
  refine HI.out.mono ?_
  rintro e w1 ⟨⟨i, hi, _, hp, rfl⟩ | ⟨hno, rfl⟩, hb⟩
  · have h1 : (l.any fun m => decide (k = 2 ∧ m.2.2 = p)) = true := List.any_eq_true.2 ⟨l[i], List.getElem_mem hi, hp⟩
    have H1 := Lib.hid (And.intro h1 hb)
    have hi0 : (0 : Int) ≤ i := by omega
    clear h1 hb HI hp
    go_wp2_with fail
    go_ret
    exact ⟨by rw [H1.out.1]; rfl, H1.out.2⟩
  · have h1 : (l.any fun m => decide (k = 2 ∧ m.2.2 = p)) = false := by
      rw [Bool.eq_false_iff]
      intro h
      obtain ⟨m, hm, hp⟩ := List.any_eq_true.1 h
      have h2 := hno m hm
      simp only at h2
      rw [h2] at hp
      cases hp
    have H1 := Lib.hid (And.intro h1 hb)
    clear h1 hb HI hno
    go_wp2_with fail
    go_ret
    exact ⟨by rw [H1.out.1]; rfl, H1.out.2⟩
end Go.Proofs.YtihiakkeloejlaaGreatDoor
/- diff.Of: what holds between its rounds. -/
set_option linter.unusedVariables false
set_option linter.unusedSimpArgs false
namespace Go.Proofs.YtihiakkeloejlaaGreatDoor
open Go Go.RowKit
open Sw
/-- what the three calls on the moves say of a change -/
theorem ofE_came {M : List (ByteArray × ByteArray)} {c : ChE} {i : Nat} (hi : i < (mvO M).length) (hbef : ∀ m (h : m < (mvO M).length), m < i → decide (c.1 = 1 ∧ (mvO M)[m].2.1 = c.2) = false) (hat : decide (c.1 = 1 ∧ (mvO M)[i].2.1 = c.2) = true) : ofE M c = some (mvO M)[i] := by
  have hat' := of_decide_eq_true hat
  have hiM : i < M.length := by simpa [mvO] using hi
  have hel : ∀ m (h : m < M.length), (mvO M)[m]'(by simpa [mvO] using h) = ((4 : Int), M[m].1, M[m].2) := fun m h => by simp [mvO]
  have hf : M.find? (fun m => decide (m.1 = c.2)) = some M[i] := by
    rw [List.find?_eq_some_iff_getElem]
    refine ⟨by have := hat'.2; rw [hel i hiM] at this; simpa using this, i, hiM, rfl, fun j hj => ?_⟩
    have h2 := of_decide_eq_false (hbef j (by simp [mvO]; omega) hj)
    rw [hel j (by omega)] at h2
    simpa using fun e => h2 ⟨hat'.1, e⟩
  unfold ofE
  rw [if_pos hat'.1, hf, hel i hiM]
theorem ofE_none {M : List (ByteArray × ByteArray)} {c : ChE} (hno : ∀ x ∈ mvO M, decide (c.1 = 1 ∧ x.2.1 = c.2) = false) : ofE M c = if ((mvO M).any fun m => decide (c.1 = 2 ∧ m.2.2 = c.2)) = true then none else some (c.1, c.2, ⟨#[]⟩) := by
  have hany : ((mvO M).any fun m => decide (c.1 = 2 ∧ m.2.2 = c.2)) = (decide (c.1 = 2) && hasB M c.2) := by
    unfold mvO hasB
    rw [List.any_map]
    by_cases h2 : c.1 = 2
    · simp [h2, Function.comp_def]
    · simp [h2, Function.comp_def]
  rw [hany]
  unfold ofE
  by_cases h1 : c.1 = 1
  · have hf : M.find? (fun m => decide (m.1 = c.2)) = none := by
      rw [List.find?_eq_none]
      intro m hm
      have := of_decide_eq_false (hno (4, m.1, m.2) (List.mem_map.2 ⟨m, hm, rfl⟩))
      simpa using fun e => this ⟨h1, e⟩
    rw [if_pos h1, hf]
    simp [h1]
  · rw [if_neg h1]
    by_cases h2 : c.1 = 2
    · rw [if_pos h2]; simp [h2]
    · rw [if_neg h2]; simp [h2]
/-- behind some changes -/
structure O1 (M : List (ByteArray × ByteArray)) (B0 rc mvb : Nat) (mv : Value) (w0 : World) (pre : List ChE) (V : World) : Prop where
  out : ∃ o, Blk V rc 32 #[o] ∧ OwnC V B0 o (pre.filterMap (ofE M)) ∧ ∀ k, mv.ownBlock = some k → o.ownBlock ≠ some k
  mb : Blk V mvb 32 #[mv]
  lies : Lies V 40 3 eCC mv (mvO M)
  ml : ∀ k, mv.ownBlock = some k → rc < k ∧ k < mvb
  low : Below B0 w0 V
theorem fm_oneO (M : List (ByteArray × ByteArray)) (pre : List ChE) (c : ChE) : (pre ++ [c]).filterMap (ofE M) = pre.filterMap (ofE M) ++ (ofE M c).toList := by
  rw [List.filterMap_append]
  cases h : ofE M c with
  | none => simp [h]
  | some c => simp [h]
section
variable {M : List (ByteArray × ByteArray)} {B0 rc mvb : Nat} {mv : Value} {w0 : World} {pre : List ChE} {V V' : World}
theorem O1.below (h : O1 M B0 rc mvb mv w0 pre V) (hB : B0 ≤ V.heap.size) (hb : Below V.heap.size V V') : O1 M B0 rc mvb mv w0 pre V' := by
  obtain ⟨o, hrc, ho, hn⟩ := h.out
  exact ⟨⟨o, hrc.below hb hrc.lt, own_kept ho hb, hn⟩, h.mb.below hb h.mb.lt, h.lies.below hb, h.ml, h.low.trans (hb.mono hB)⟩
theorem O1.own {B : Nat} (hB0 : B0 ≤ rc) (hrB : rc < B) : OwnM (fun _ => False) B (O1 M B0 rc mvb mv w0) := fun s A C row h hg hr => by
  have hr1 : ∀ r, row = some r → B ≤ r ∧ ∃ o : Obj, A.heap[r]? = some o ∧ o.isCells = false := fun r e => (hr r e).resolve_left id
  have hr' : ∀ r, row = some r → ∃ o : Obj, A.heap[r]? = some o ∧ o.isCells = false := fun r e => (hr1 r e).2
  obtain ⟨o, hrc, ho, hn⟩ := h.out
  have hs : B0 ≤ A.heap.size := Nat.le_trans hB0 (Nat.le_of_lt hrc.lt)
  exact ⟨⟨o, blk_ownF hrc hg hr', own_ownF ho hg hr', hn⟩, blk_ownF h.mb hg hr', h.lies.ownF hg hr', h.ml, h.low.trans ((Below.refl B0 A).grown hg hs (fun r e => by have := (hr1 r e).1; omega))⟩
/-- a change that is left out -/
theorem O1.skip (h : O1 M B0 rc mvb mv w0 pre V) {B : Nat} (hB : B0 ≤ V.heap.size) (hb : Below V.heap.size V V') {c : ChE} (hc : ofE M c = none) :
    KeepsFrom B V V' ∧ KeepR B0 tsG V V' ∧ O1 M B0 rc mvb mv w0 (pre ++ [c]) V' := by
  have h2 := h.below hB hb
  obtain ⟨o, hrc, ho, hn⟩ := h2.out
  have he : (pre ++ [c]).filterMap (ofE M) = pre.filterMap (ofE M) := by rw [fm_oneO, hc]; simp
  exact ⟨(keeps_belowF hb).from _, KeepR.below hb hB, ⟨⟨o, hrc, by rw [he]; exact ho, hn⟩, h2.mb, h2.lies, h2.ml, h2.low⟩⟩
/-- a change that is told -/
theorem O1.add (h : O1 M B0 rc mvb mv w0 pre V) {B : Nat} (hB : B0 ≤ V.heap.size) {V1 V2 : World} (hb : Below V.heap.size V V1) {c : ChE} {x : OfE} (hc : ofE M c = some x) {o2 : Value} (hmr : mvb ≠ rc)
    (hA : AppBody B0 rc 32 40 3 ((pre.filterMap (ofE M)).length + 1) o2 ((pre.filterMap (ofE M)).flatMap eCC ++ eCC x) V1 V2) (hk : ∀ k, mv.ownBlock = some k → o2.ownBlock ≠ some k ∧ V2.heap[k]? = V1.heap[k]?) :
    KeepsFrom B V V2 ∧ KeepR B0 tsG V V2 ∧ O1 M B0 rc mvb mv w0 (pre ++ [c]) V2 := by
  have h1 := h.below hB hb
  have he : (pre ++ [c]).filterMap (ofE M) = pre.filterMap (ofE M) ++ [x] := by rw [fm_oneO, hc]; rfl
  have hkR : KeepR B0 tsG V1 V2 := ⟨hA.below, fun g t cs hB ht => hA.far g t cs hB (fun e => ht (by rw [e]; decide)) (fun e => by
    subst e
    exact ht (by rw [hA.typ t cs hB]; decide))⟩
  refine ⟨((keeps_belowF hb).trans hA.keeps).from _, (KeepR.below (ts := tsG) hb hB).trans hkR, ⟨⟨o2, hA.box, ?_, fun k hk' => (hk k hk').1⟩, hA.far _ _ _ h1.mb (by decide) hmr, h1.lies.kept (fun g cur hg _ => (hk g hg).2), h.ml, h1.low.trans hkR.low⟩⟩
  rw [he]
  unfold OwnC
  rw [List.length_append, List.flatMap_append]
  simpa using hA.own
/-- a change that is told: the append -/
theorem O1.app (h : O1 M B0 rc mvb mv w0 pre V) {B : Nat} (hB : B0 ≤ V.heap.size) {V1 U X : World} (hb : Below V.heap.size V V1) {o : Value} (hrc : Blk V1 rc 32 #[o]) (ho : OwnC V1 B0 o (pre.filterMap (ofE M))) (hn : ∀ k, mv.ownBlock = some k → o.ownBlock ≠ some k)
    (hb0 : Below V1.heap.size V1 U) (hgr : U.grownBy X o.ownBlock) {gN cap n : Nat} {x : OfE} (hnl : (pre.filterMap (ofE M)).length = n) (hown : X.ownsRow B0 40 3 (.slice (some ⟨gN, 0, none⟩) (n + 1) cap) (n + 1) ((pre.filterMap (ofE M)).flatMap eCC ++ eCC x))
    (hbk : o.ownBlock = some gN ∨ gN = U.heap.size) {c : ChE} (hc : ofE M c = some x) (hB0 : B0 ≤ rc) (hmr : mvb ≠ rc) :
    KeepsFrom B V (X.setCell ⟨rc, 0, none⟩ (.slice (some ⟨gN, 0, none⟩) (n + 1) cap)) ∧ KeepR B0 tsG V (X.setCell ⟨rc, 0, none⟩ (.slice (some ⟨gN, 0, none⟩) (n + 1) cap)) ∧ O1 M B0 rc mvb mv w0 (pre ++ [c]) (X.setCell ⟨rc, 0, none⟩ (.slice (some ⟨gN, 0, none⟩) (n + 1) cap)) := by
  subst hnl
  have hA := app_body hrc ho hb0 hgr hown (Nat.le_trans hB hb.size) hB0 (by decide)
  refine h.add hB hb hc hmr hA (fun k hk => ?_)
  have hkl := h.ml k hk
  have hkV : k < V1.heap.size := by have := h.mb.lt; have := hb.size; omega
  refine ⟨fun e => ?_, ?_⟩
  · have e' : gN = k := by simpa [Value.ownBlock] using e
    subst e'
    rcases hbk with hbk | hbk
    · exact hn _ hk hbk
    · have := hb0.size; omega
  · have h1 : X.heap[k]? = V1.heap[k]? := (hgr.block k (Nat.lt_of_lt_of_le hkV hb0.size) (fun e => hn k hk e.symm)).trans (hb0.block k hkV)
    rw [← h1]
    have hkr : k ≠ rc := by omega
    exact (grown_put (grown_refl X (some rc)) 0 _).block k (by have := hgr.size; have := hb0.size; omega) (fun e => hkr (by simpa using e))
end
end Go.Proofs.YtihiakkeloejlaaGreatDoor
