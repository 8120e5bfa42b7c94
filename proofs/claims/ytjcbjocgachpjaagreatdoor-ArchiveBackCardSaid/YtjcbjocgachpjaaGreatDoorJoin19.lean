/- Several texts, joined for the limit of sixty files; each one opens with its own comment. -/
import Derived.Test.YtjcbjocgachpjaaGreatDoorJoin1
import Derived.Test.YtjcbjocgachpjaaGreatDoorJoin10
import Derived.Test.YtjcbjocgachpjaaGreatDoorJoin3
import Derived.Test.YtjcbjocgachpjaaGreatDoorJoin18
import Derived.Test.YtjcbjocgachpjaaGreatDoorJoin17
import Derived.Test.YtjcbjocgachpjaaGreatDoorJoin8
import Derived.Test.YtjcbjocgachpjaaGreatDoorJoin5
import Derived.BigRegion
/- slices.IndexFunc, ContainsFunc of rows of marks, by the predicates of package archive. -/
set_option linter.unusedVariables false
set_option linter.unusedSimpArgs false
namespace Go.Proofs.YtjcbjocgachpjaaGreatDoor
open Go Go.RowKit
open Sw
def IdxPostM (p : MkE → Bool) (l : List MkE) (w : World) (e : Ending) (w' : World) : Prop :=
  ((∃ i : Nat, ∃ h : i < l.length, (∀ m (h : m < l.length), m < i → p l[m] = false) ∧ p l[i] = true ∧ e = .returned (.int .i64 i)) ∨ ((∀ x ∈ l, p x = false) ∧ e = .returned (.int .i64 (-1)))) ∧ Below w.heap.size w w'
set_option maxRecDepth 100000 in
set_option maxHeartbeats 4000000 in
theorem idxH_any (p : MkE → Bool) (C : World → Prop) (hC : ∀ W W', C W → W.grownBy W' none → C W') (w : World) (A : Option Addr) (n c g : Nat) (l : List MkE) (hl : l.length = n) (hn : n ≤ 1000000) (hsl : SlOf w 6 eCM A l) (h0 : C w)
    (hcall : ∀ W x, x ∈ l → C W → Calls Tryz.prog 62 #[.agg (eCM x).toArray, .pointer (some ⟨g, 0, none⟩)] W fun e w' => e = .returned (.bool (p x)) ∧ Below W.heap.size W w') :
    Calls Tryz.prog 65 #[.slice A n c, .func (.func 62) #[] #[.pointer (some ⟨g, 0, none⟩)]] w (IdxPostM p l w) := by
  have HS := Lib.hid hsl; clear hsl
  have HL := Lib.hid hl; clear hl
  have HC := Lib.hid hC; clear hC
  have HCL := Lib.hid hcall; clear hcall
  have H0 := Lib.hid h0; clear h0
  go_enter Tryz.func65, Tryz.ntmps65
  go_wp2_with fail
  go_loopw [8] (fun iv wr => ∃ i : Nat, i ≤ n ∧ iv = .int .i64 i ∧ (∀ m (h : m < l.length), m < i → p l[m] = false) ∧ Below w.heap.size w wr) (fun iv _ => n - (intOf iv).toNat)
  case atStart => exact ⟨0, Nat.zero_le _, rfl, fun m h h' => absurd h' (Nat.not_lt_zero _), Below.refl _ _⟩
  case round =>
    obtain ⟨i, hin, rfl, hno, hbr⟩ := hrel
    have HNO := Lib.hid hno; clear hno
    by_cases hlt : i < n
    · have hiL : i < l.length := by have := HL.out; omega
      obtain ⟨b, off, rfl, hbb, hcs⟩ := (HS.out.below hbr (Nat.le_refl _)) (by omega)
      have c0 := hcs i hiL 0 (by omega)
      have c1 := hcs i hiL 1 (by omega)
      have c2 := hcs i hiL 2 (by omega)
      have c3' := hcs i hiL 3 (by omega)
      have c4 := hcs i hiL 4 (by omega)
      have c5 := hcs i hiL 5 (by omega)
      simp only [eCM, List.getElem?_cons_succ, List.getElem?_cons_zero, Nat.add_zero] at c0 c1 c2 c3' c4 c5
      have HF := Lib.hid (HCL.out wr l[i] (List.getElem_mem hiL) (HC.out w wr H0.out (grown_below hbr)))
      have HYES := Lib.hid (fun (hp : p l[i] = true) w' (hb : Below w.heap.size w w') => (⟨.inl ⟨i, hiL, HNO.out, hp, rfl⟩, hb⟩ : IdxPostM p l w (.returned (.int .i64 i)) w'))
      have HNO2 := Lib.hid (fun (hp : p l[i] = false) m (hm : m < l.length) (hmi : m < i + 1) => (by
        by_cases e : m = i
        · subst e; exact hp
        · exact HNO.out m hm (by omega) : p l[m] = false))
      generalize p l[i] = pv at *
      generalize l[i] = X at *
      obtain ⟨q, ⟨kd, md, tm, sz, sm⟩⟩ := X
      simp only [eCM] at HF
      simp only at c0 c1 c2 c3' c4 c5
      have q2 : (i : Int) < n := by omega
      clear hcs
      cases pv with
      | true =>
        have hyes := HYES.out rfl
        have HYES2 := Lib.hid hyes; clear hyes HYES HNO2
        go_wp2_with fail
        refine HF.out.mono ?_
        rintro e w2 ⟨rfl, hb2⟩
        have HP := Lib.hid (HYES2.out w2 (hbr.trans (hb2.mono hbr.size)))
        clear HF HNO
        go_wp2_with fail
        go_ret
        exact HP.out
      | false =>
        have hno2 := HNO2.out rfl
        have HNO3 := Lib.hid hno2; clear hno2 HYES HNO2
        go_wp2_with fail
        refine HF.out.mono ?_
        rintro e w2 ⟨rfl, hb2⟩
        have HP := Lib.hid (And.intro HNO3.out (hbr.trans (hb2.mono hbr.size)))
        clear HF HNO
        go_wp2_with fail
        go_roundw
        case rel => exact ⟨i + 1, by omega, by go_num, HP.out.1, HP.out.2⟩
        case measure => simp [intOf]; omega
    · obtain rfl : i = n := by omega
      have hpst : IdxPostM p l w (.returned (.int .i64 (-1))) wr := ⟨.inr ⟨fun x hx => by
        obtain ⟨m, hm, rfl⟩ := List.mem_iff_getElem.1 hx
        exact HNO.out m hm (by have := HL.out; omega), rfl⟩, hbr⟩
      have HP := Lib.hid hpst; clear hpst
      go_wp2_with fail
      go_ret
      exact HP.out
set_option maxRecDepth 100000 in
theorem conH_any (p : MkE → Bool) (C : World → Prop) (hC : ∀ W W', C W → W.grownBy W' none → C W') (w : World) (v : Value) (g : Nat) (l : List MkE) (hv : SlV w 6 eCM v l) (hn : l.length ≤ 1000000) (h0 : C w)
    (hcall : ∀ W x, x ∈ l → C W → Calls Tryz.prog 62 #[.agg (eCM x).toArray, .pointer (some ⟨g, 0, none⟩)] W fun e w' => e = .returned (.bool (p x)) ∧ Below W.heap.size W w') :
    Calls Tryz.prog 35 #[v, .func (.func 62) #[] #[.pointer (some ⟨g, 0, none⟩)]] w fun e w' => e = .returned (.bool (l.any p)) ∧ Below w.heap.size w w' := by
  obtain ⟨A, c, rfl, _, _, hsl⟩ := hv
  have HI := Lib.hid (idxH_any p C hC w A l.length c g l rfl hn hsl h0 hcall)
  clear hsl h0 hcall hC
  generalize hz : l.length = n at *
  have HZ := Lib.hid hz; clear hz
  go_enter Tryz.func35, Tryz.ntmps35
  go_wp2_with fail
  refine HI.out.mono ?_
  rintro e w1 ⟨⟨i, hi, _, hp, rfl⟩ | ⟨hno, rfl⟩, hb⟩
  · have h1 : l.any p = true := List.any_eq_true.2 ⟨l[i], List.getElem_mem hi, hp⟩
    have H1 := Lib.hid (And.intro h1 hb)
    have hi0 : (0 : Int) ≤ i := by omega
    clear h1 hb HI hp
    go_wp2_with fail
    go_ret
    exact ⟨by rw [H1.out.1]; rfl, H1.out.2⟩
  · have h1 : l.any p = false := by
      rw [Bool.eq_false_iff]
      intro h
      obtain ⟨m, hm, hp⟩ := List.any_eq_true.1 h
      have h2 := hno m hm
      rw [h2] at hp
      cases hp
    have H1 := Lib.hid (And.intro h1 hb)
    clear h1 hb HI hno
    go_wp2_with fail
    go_ret
    exact ⟨by rw [H1.out.1]; rfl, H1.out.2⟩
theorem strMk (s t : ByteArray) : (s.toList == t.toList) = decide (s = t) := by
  rw [ByteArray.toList_eq, ByteArray.toList_eq]
  by_cases h : s = t
  · subst h
    rw [decide_eq_true rfl]
    simp
  · rw [decide_eq_false h, beq_eq_false_iff_ne]
    intro e
    exact h (ByteArray.ext (Array.ext' e))
theorem any_findM (l : List MkE) (p : ByteArray) : (l.any fun m => decide (m.1 = p)) = (findM l p).isSome := by
  induction l with
  | nil => rfl
  | cons m l ih =>
    rw [List.any_cons, findM_cons, ih]
    by_cases h : m.1 = p
    · rw [decide_eq_true h, if_pos h]; rfl
    · rw [decide_eq_false h, if_neg h]; rfl
set_option maxRecDepth 100000 in
theorem archHas_any (w : World) (v : Value) (l : List MkE) (p : ByteArray) (hv : SlV w 6 eCM v l) (hn : l.length ≤ 1000000) :
    Calls Tryz.prog 33 #[v, .string p] w fun e w' => e = .returned (.bool (findM l p).isSome) ∧ Below w.heap.size w w' := by
  have hb0 := (Below.refl w.heap.size w).alloc (Nat.le_refl _) (.cells #[.string p] 9)
  have hB0 := Blk.new w 9 #[.string p]
  have HC := Lib.hid (conH_any (fun m => decide (m.1 = p)) (fun W => Blk W w.heap.size 9 #[.string p]) (fun W W' h hg => h.grown hg (by simp)) _ v w.heap.size l (hv.below hb0 (Nat.le_refl _)) hn hB0 (fun W x hx hB => by
    obtain ⟨q, ⟨kd, md, tm, sz, sm⟩⟩ := x
    have x0 := hB.cell 0
    simp at x0
    have hse := strMk q p
    simp only [eCM]
    have hba := (Below.refl W.heap.size W).alloc (Nat.le_refl _) (.cells #[.string q, .int .i64 kd, .int .i64 md, .int .u32 tm, .int .i64 sz, .int .u32 sm] 61)
    have HA := Lib.hid hba; clear hba
    have hlt := hB.lt
    generalize decide (q = p) = R at *
    go_enter Tryz.func62, Tryz.ntmps62
    go_wp2_with fail
    go_ret
    exact ⟨rfl, HA.out⟩))
  rw [any_findM] at HC
  generalize (findM l p).isSome = R at *
  have HB := Lib.hid hb0; clear hb0 hB0
  obtain ⟨A, c, rfl, _, _, _⟩ := hv
  generalize l.length = n at *
  go_enter Tryz.func33, Tryz.ntmps33
  go_wp2_with fail
  refine HC.out.mono ?_
  rintro e w1 ⟨rfl, hb⟩
  have H1 := Lib.hid (HB.out.trans (hb.mono HB.out.size)); clear hb HC
  go_wp2_with fail
  go_ret
  exact ⟨rfl, H1.out⟩
set_option maxRecDepth 100000 in
set_option maxHeartbeats 4000000 in
theorem idxR_any (p : MkE → Bool) (C : World → Prop) (hC : ∀ W W', C W → W.grownBy W' none → C W') (w : World) (A : Option Addr) (n c g : Nat) (l : List MkE) (hl : l.length = n) (hn : n ≤ 1000000) (hsl : SlOf w 6 eCM A l) (h0 : C w)
    (hcall : ∀ W x, x ∈ l → C W → Calls Tryz.prog 32 #[.agg (eCM x).toArray, .pointer (some ⟨g, 0, none⟩)] W fun e w' => e = .returned (.bool (p x)) ∧ Below W.heap.size W w') :
    Calls Tryz.prog 65 #[.slice A n c, .func (.func 32) #[] #[.pointer (some ⟨g, 0, none⟩)]] w (IdxPostM p l w) := by
  have HS := Lib.hid hsl; clear hsl
  have HL := Lib.hid hl; clear hl
  have HC := Lib.hid hC; clear hC
  have HCL := Lib.hid hcall; clear hcall
  have H0 := Lib.hid h0; clear h0
  go_enter Tryz.func65, Tryz.ntmps65
  go_wp2_with fail
  go_loopw [8] (fun iv wr => ∃ i : Nat, i ≤ n ∧ iv = .int .i64 i ∧ (∀ m (h : m < l.length), m < i → p l[m] = false) ∧ Below w.heap.size w wr) (fun iv _ => n - (intOf iv).toNat)
  case atStart => exact ⟨0, Nat.zero_le _, rfl, fun m h h' => absurd h' (Nat.not_lt_zero _), Below.refl _ _⟩
  case round =>
    obtain ⟨i, hin, rfl, hno, hbr⟩ := hrel
    have HNO := Lib.hid hno; clear hno
    by_cases hlt : i < n
    · have hiL : i < l.length := by have := HL.out; omega
      obtain ⟨b, off, rfl, hbb, hcs⟩ := (HS.out.below hbr (Nat.le_refl _)) (by omega)
      have c0 := hcs i hiL 0 (by omega)
      have c1 := hcs i hiL 1 (by omega)
      have c2 := hcs i hiL 2 (by omega)
      have c3' := hcs i hiL 3 (by omega)
      have c4 := hcs i hiL 4 (by omega)
      have c5 := hcs i hiL 5 (by omega)
      simp only [eCM, List.getElem?_cons_succ, List.getElem?_cons_zero, Nat.add_zero] at c0 c1 c2 c3' c4 c5
      have HF := Lib.hid (HCL.out wr l[i] (List.getElem_mem hiL) (HC.out w wr H0.out (grown_below hbr)))
      have HYES := Lib.hid (fun (hp : p l[i] = true) w' (hb : Below w.heap.size w w') => (⟨.inl ⟨i, hiL, HNO.out, hp, rfl⟩, hb⟩ : IdxPostM p l w (.returned (.int .i64 i)) w'))
      have HNO2 := Lib.hid (fun (hp : p l[i] = false) m (hm : m < l.length) (hmi : m < i + 1) => (by
        by_cases e : m = i
        · subst e; exact hp
        · exact HNO.out m hm (by omega) : p l[m] = false))
      generalize p l[i] = pv at *
      generalize l[i] = X at *
      obtain ⟨q, ⟨kd, md, tm, sz, sm⟩⟩ := X
      simp only [eCM] at HF
      simp only at c0 c1 c2 c3' c4 c5
      have q2 : (i : Int) < n := by omega
      clear hcs
      cases pv with
      | true =>
        have hyes := HYES.out rfl
        have HYES2 := Lib.hid hyes; clear hyes HYES HNO2
        go_wp2_with fail
        refine HF.out.mono ?_
        rintro e w2 ⟨rfl, hb2⟩
        have HP := Lib.hid (HYES2.out w2 (hbr.trans (hb2.mono hbr.size)))
        clear HF HNO
        go_wp2_with fail
        go_ret
        exact HP.out
      | false =>
        have hno2 := HNO2.out rfl
        have HNO3 := Lib.hid hno2; clear hno2 HYES HNO2
        go_wp2_with fail
        refine HF.out.mono ?_
        rintro e w2 ⟨rfl, hb2⟩
        have HP := Lib.hid (And.intro HNO3.out (hbr.trans (hb2.mono hbr.size)))
        clear HF HNO
        go_wp2_with fail
        go_roundw
        case rel => exact ⟨i + 1, by omega, by go_num, HP.out.1, HP.out.2⟩
        case measure => simp [intOf]; omega
    · obtain rfl : i = n := by omega
      have hpst : IdxPostM p l w (.returned (.int .i64 (-1))) wr := ⟨.inr ⟨fun x hx => by
        obtain ⟨m, hm, rfl⟩ := List.mem_iff_getElem.1 hx
        exact HNO.out m hm (by have := HL.out; omega), rfl⟩, hbr⟩
      have HP := Lib.hid hpst; clear hpst
      go_wp2_with fail
      go_ret
      exact HP.out
set_option maxRecDepth 100000 in
theorem conR_any (p : MkE → Bool) (C : World → Prop) (hC : ∀ W W', C W → W.grownBy W' none → C W') (w : World) (v : Value) (g : Nat) (l : List MkE) (hv : SlV w 6 eCM v l) (hn : l.length ≤ 1000000) (h0 : C w)
    (hcall : ∀ W x, x ∈ l → C W → Calls Tryz.prog 32 #[.agg (eCM x).toArray, .pointer (some ⟨g, 0, none⟩)] W fun e w' => e = .returned (.bool (p x)) ∧ Below W.heap.size W w') :
    Calls Tryz.prog 35 #[v, .func (.func 32) #[] #[.pointer (some ⟨g, 0, none⟩)]] w fun e w' => e = .returned (.bool (l.any p)) ∧ Below w.heap.size w w' := by
  obtain ⟨A, c, rfl, _, _, hsl⟩ := hv
  have HI := Lib.hid (idxR_any p C hC w A l.length c g l rfl hn hsl h0 hcall)
  clear hsl h0 hcall hC
  generalize hz : l.length = n at *
  have HZ := Lib.hid hz; clear hz
  go_enter Tryz.func35, Tryz.ntmps35
  go_wp2_with fail
  refine HI.out.mono ?_
  rintro e w1 ⟨⟨i, hi, _, hp, rfl⟩ | ⟨hno, rfl⟩, hb⟩
  · have h1 : l.any p = true := List.any_eq_true.2 ⟨l[i], List.getElem_mem hi, hp⟩
    have H1 := Lib.hid (And.intro h1 hb)
    have hi0 : (0 : Int) ≤ i := by omega
    clear h1 hb HI hp
    go_wp2_with fail
    go_ret
    exact ⟨by rw [H1.out.1]; rfl, H1.out.2⟩
  · have h1 : l.any p = false := by
      rw [Bool.eq_false_iff]
      intro h
      obtain ⟨m, hm, hp⟩ := List.any_eq_true.1 h
      have h2 := hno m hm
      rw [h2] at hp
      cases hp
    have H1 := Lib.hid (And.intro h1 hb)
    clear h1 hb HI hno
    go_wp2_with fail
    go_ret
    exact ⟨by rw [H1.out.1]; rfl, H1.out.2⟩
end Go.Proofs.YtjcbjocgachpjaaGreatDoor
/- archive.order, rises, Right: which Bases may be, exactly. -/
set_option linter.unusedVariables false
set_option linter.unusedSimpArgs false
namespace Sw
open Go
/-- may the i-th of some marks stand there? -/
def okI (L : List MkE) (i : Nat) : Bool :=
  match L[i]? with
  | none => true
  | some m => rightL m.1.data.toList && (fineP m.2 && (!decide (m.2.kind = 0) && (match i with
    | 0 => true
    | j + 1 => match L[j]? with
      | none => true
      | some m' => decide (ordS m'.1 m.1 = -1))))
def risesM (L : List MkE) : Bool := (List.range L.length).all (okI L)
/-- may two rows of marks be a Base? -/
def rightM (l1 l2 : List MkE) : Bool := risesM l1 && (risesM l2 && !(l2.any fun m => (findM l1 m.1).isSome))
theorem risesM_no {L : List MkE} {i : Nat} (hi : i < L.length) (h : okI L i = false) : risesM L = false := by
  unfold risesM
  rw [List.all_eq_false]
  exact ⟨i, List.mem_range.2 hi, by rw [h]; decide⟩
theorem risesM_yes {L : List MkE} (h : ∀ i, i < L.length → okI L i = true) : risesM L = true := by
  unfold risesM
  rw [List.all_eq_true]
  exact fun i hi => h i (List.mem_range.1 hi)
theorem okI_zero {L : List MkE} {m : MkE} (h : L[0]? = some m) : okI L 0 = (rightL m.1.data.toList && (fineP m.2 && (!decide (m.2.kind = 0) && true))) := by
  unfold okI
  rw [h]
theorem okI_succ {L : List MkE} {m m' : MkE} {j : Nat} (h : L[j + 1]? = some m) (h' : L[j]? = some m') : okI L (j + 1) = (rightL m.1.data.toList && (fineP m.2 && (!decide (m.2.kind = 0) && decide (ordS m'.1 m.1 = -1)))) := by
  unfold okI
  rw [h]
  simp only
  rw [h']
end Sw
namespace Go.Proofs.YtjcbjocgachpjaaGreatDoor
open Go Go.RowKit
open Sw
/-- a mark that came in -/
def MkInA (m : MkE) : Prop := m.1.size ≤ 90000 ∧ 0 ≤ m.2.time ∧ m.2.time < 4294967296
set_option maxRecDepth 100000 in
theorem archOrd_any (w : World) (x y : MkE) (hx : x.1.size ≤ 90000) (hy : y.1.size ≤ 90000) :
    Calls Tryz.prog 64 #[.agg (eCM x).toArray, .agg (eCM y).toArray] w fun e w' => e = .returned (.int .i64 (ordS x.1 y.1)) ∧ Below w.heap.size w w' := by
  obtain ⟨p, px⟩ := x
  obtain ⟨q, qx⟩ := y
  simp only at hx hy
  have hb0 : Below w.heap.size w ((w.alloc (.cells (eCM (p, px)).toArray 61)).alloc (.cells (eCM (q, qx)).toArray 61)) := ((Below.refl _ _).alloc (Nat.le_refl _) _).alloc (by simp) _
  have HO := Lib.hid (order_any ((w.alloc (.cells (eCM (p, px)).toArray 61)).alloc (.cells (eCM (q, qx)).toArray 61)) p q (by omega) (by omega))
  have HB := Lib.hid hb0; clear hb0
  simp only [eCM] at *
  generalize ordS p q = r at *
  go_enter Tryz.func64, Tryz.ntmps64
  go_wp2_with fail
  refine HO.out.mono ?_
  rintro e w2 ⟨rfl, hb2⟩
  go_wp2_with fail
  go_ret
  exact ⟨rfl, HB.out.trans (hb2.mono HB.out.size)⟩
set_option maxRecDepth 100000 in
set_option maxHeartbeats 8000000 in
theorem archRises_any (w : World) (u : Value) (L : List MkE) (h : SlV w 6 eCM u L) (hn : L.length ≤ 1000) (hin : ∀ m ∈ L, MkInA m) :
    Calls Tryz.prog 34 #[u] w fun e w' => e = .returned (.bool (risesM L)) ∧ Below w.heap.size w w' := by
  have HS := Lib.hid (And.intro h hin); clear hin
  obtain ⟨A, c, rfl, _, _, _⟩ := h
  obtain ⟨n, hn2⟩ : ∃ n, L.length = n := ⟨_, rfl⟩
  rw [hn2] at HS hn ⊢
  have HL := Lib.hid hn2; clear hn2
  have HNO := Lib.hid (fun i (hi : i < L.length) => risesM_no hi)
  have HYES := Lib.hid (fun (hy : ∀ i, i < L.length → okI L i = true) => risesM_yes hy)
  generalize risesM L = RES at *
  go_enter Tryz.func34, Tryz.ntmps34
  go_wp2_with fail
  go_loopw [7] (fun iv wr => ∃ i : Nat, i ≤ n ∧ iv = .int .i64 i ∧ (∀ j, j < i → okI L j = true) ∧ Below w.heap.size w wr) (fun iv _ => n - (intOf iv).toNat)
  case atStart => exact ⟨0, Nat.zero_le _, rfl, fun j hj => by omega, Below.refl _ _⟩
  case round =>
    obtain ⟨i, hi, rfl, hok, hb⟩ := hrel
    have HOK := Lib.hid hok; clear hok
    have hslr := HS.out.1.below hb (Nat.le_refl _)
    by_cases hlt : i < n
    · have hiL : i < L.length := by have := HL.out; omega
      obtain ⟨A', c', hA, _, _, hso⟩ := hslr
      obtain ⟨rfl, rfl⟩ : A = A' ∧ c = c' := by injection hA with e1 e2 e3; exact ⟨e1, e3⟩
      clear hA
      obtain ⟨b, off, rfl, hbb, hcs⟩ := hso (by omega)
      have c0 := hcs i hiL 0 (by omega)
      have c1 := hcs i hiL 1 (by omega)
      have c2 := hcs i hiL 2 (by omega)
      have c3' := hcs i hiL 3 (by omega)
      have c4 := hcs i hiL 4 (by omega)
      have c5 := hcs i hiL 5 (by omega)
      simp only [eCM, List.getElem?_cons_succ, List.getElem?_cons_zero, Nat.add_zero] at c0 c1 c2 c3' c4 c5
      have HCS := Lib.hid (And.intro hbb hcs)
      clear hcs hso hbb
      have hi1 : (i : Int) < n := by omega
      have hmi := HS.out.2 _ (List.getElem_mem hiL)
      have hLi := List.getElem?_eq_getElem hiL
      obtain ⟨⟨q, ⟨kd, md, tm, sz, sm⟩⟩, hx⟩ : ∃ x, L[i] = x := ⟨_, rfl⟩
      simp only [hx] at c0 c1 c2 c3' c4 c5 hmi hLi
      clear hx
      have HLI := Lib.hid hLi; clear hLi
      obtain ⟨W0, hW0⟩ : ∃ W0, wr.alloc (.cells #[.string q, .int .i64 kd, .int .i64 md, .int .u32 tm, .int .i64 sz, .int .u32 sm] 61) = W0 := ⟨_, rfl⟩
      have hba : Below wr.heap.size wr W0 := by rw [← hW0]; exact (Below.refl _ _).alloc (Nat.le_refl _) _
      have hB0 : Blk W0 wr.heap.size 61 #[.string q, .int .i64 kd, .int .i64 md, .int .u32 tm, .int .i64 sz, .int .u32 sm] := by rw [← hW0]; exact Blk.new _ _ _
      obtain ⟨G, hG⟩ : ∃ G, wr.heap.size = G := ⟨_, rfl⟩
      have H0 := Lib.hid (And.intro hW0 (And.intro hba (And.intro hb (And.intro hB0 hG))))
      rw [hG] at hB0
      have hGl := hB0.lt
      obtain ⟨hq0, ht0, ht1⟩ := hmi
      simp only at hq0 ht0 ht1
      have HRR := Lib.hid (fun m : Held (Aft W0) => right_any (HeldW m) q (by omega))
      have HFI := Lib.hid (fun m : Held (Aft W0) => nodeFine_any (HeldW m) ⟨kd, md, tm, sz, sm⟩ ht0 ht1)
      have HQ := Lib.hid hq0
      unfold Pr.c at HFI
      obtain ⟨R, hR⟩ : ∃ R, rightL q.data.toList = R := ⟨_, rfl⟩
      obtain ⟨F, hF⟩ : ∃ F, fineP ⟨kd, md, tm, sz, sm⟩ = F := ⟨_, rfl⟩
      rw [hR] at HRR
      rw [hF] at HFI
      have HRF := Lib.hid (And.intro hR hF)
      have k0 : ∀ m : Held (Aft W0), (HeldW m).cell? ⟨G, 0, none⟩ = some (.string q) := fun m => (Aft.cell m hGl).trans (by have := hB0.cell 0; simpa using this)
      have k1 : ∀ m : Held (Aft W0), (HeldW m).cell? ⟨G, 1, none⟩ = some (.int .i64 kd) := fun m => (Aft.cell m hGl).trans (by have := hB0.cell 1; simpa using this)
      have k2 : ∀ m : Held (Aft W0), (HeldW m).cell? ⟨G, 2, none⟩ = some (.int .i64 md) := fun m => (Aft.cell m hGl).trans (by have := hB0.cell 2; simpa using this)
      have k3 : ∀ m : Held (Aft W0), (HeldW m).cell? ⟨G, 3, none⟩ = some (.int .u32 tm) := fun m => (Aft.cell m hGl).trans (by have := hB0.cell 3; simpa using this)
      have k4 : ∀ m : Held (Aft W0), (HeldW m).cell? ⟨G, 4, none⟩ = some (.int .i64 sz) := fun m => (Aft.cell m hGl).trans (by have := hB0.cell 4; simpa using this)
      have k5 : ∀ m : Held (Aft W0), (HeldW m).cell? ⟨G, 5, none⟩ = some (.int .u32 sm) := fun m => (Aft.cell m hGl).trans (by have := hB0.cell 5; simpa using this)
      clear hba hb hB0 hq0 ht0 ht1 hR hF hGl hW0
      go_upto_region 4 with fail
      rw [H0.out.1]
      clear c0 c1 c2 c3' c4 c5
      haveI := Aft.some W0
      cases R with
      | false =>
        refine wp_region_class (Aft W0) (by kernel_rfl) (by kernel_rfl) (Aft.start W0) ?_
        repeat (go_big_quiet_step (first | with_reducible exact held_below Aft.keep (HRR.out _)))
        refine wpQuiet_nil ?_
        rintro _ ⟨nn, rfl⟩
        have HW := Lib.hid (H0.out.2.2.1.trans ((H0.out.2.1.trans ((HeldW_spec nn : Below W0.heap.size W0 (HeldW nn)).mono H0.out.2.1.size)).mono H0.out.2.2.1.size))
        have hoki : okI L i = false := by
          cases i with
          | zero => rw [okI_zero HLI.out]; simp [HRF.out.1]
          | succ j =>
            have hjL : j < L.length := by omega
            rw [okI_succ HLI.out (List.getElem?_eq_getElem hjL)]; simp [HRF.out.1]
        have hres := HNO.out i (by have := HL.out; omega) hoki
        have HRES := Lib.hid hres; clear hres hoki k0 k1 k2 k3 k4 k5
        go_wp2_with fail
        go_ret
        exact ⟨by rw [HRES.out]; rfl, HW.out⟩
      | true =>
        cases F with
        | false =>
          refine wp_region_class (Aft W0) (by kernel_rfl) (by kernel_rfl) (Aft.start W0) ?_
          repeat (go_big_quiet_step (first | with_reducible exact held_below Aft.keep (HRR.out _) | with_reducible exact held_below Aft.keep (HFI.out _)))
          refine wpQuiet_nil ?_
          rintro _ ⟨nn, rfl⟩
          have HW := Lib.hid (H0.out.2.2.1.trans ((H0.out.2.1.trans ((HeldW_spec nn : Below W0.heap.size W0 (HeldW nn)).mono H0.out.2.1.size)).mono H0.out.2.2.1.size))
          have hoki : okI L i = false := by
            cases i with
            | zero => rw [okI_zero HLI.out]; simp [HRF.out.1, HRF.out.2]
            | succ j =>
              have hjL : j < L.length := by omega
              rw [okI_succ HLI.out (List.getElem?_eq_getElem hjL)]; simp [HRF.out.1, HRF.out.2]
          have hres := HNO.out i (by have := HL.out; omega) hoki
          have HRES := Lib.hid hres; clear hres hoki k0 k1 k2 k3 k4 k5
          go_wp2_with fail
          go_ret
          exact ⟨by rw [HRES.out]; rfl, HW.out⟩
        | true =>
          by_cases hk : kd = 0
          · subst hk
            refine wp_region_class (Aft W0) (by kernel_rfl) (by kernel_rfl) (Aft.start W0) ?_
            repeat (go_big_quiet_step (first | with_reducible exact held_below Aft.keep (HRR.out _) | with_reducible exact held_below Aft.keep (HFI.out _)))
            refine wpQuiet_nil ?_
            rintro _ ⟨nn, rfl⟩
            have HW := Lib.hid (H0.out.2.2.1.trans ((H0.out.2.1.trans ((HeldW_spec nn : Below W0.heap.size W0 (HeldW nn)).mono H0.out.2.1.size)).mono H0.out.2.2.1.size))
            have hoki : okI L i = false := by
              cases i with
              | zero => rw [okI_zero HLI.out]; simp [HRF.out.1, HRF.out.2]
              | succ j =>
                have hjL : j < L.length := by omega
                rw [okI_succ HLI.out (List.getElem?_eq_getElem hjL)]; simp [HRF.out.1, HRF.out.2]
            have hres := HNO.out i (by have := HL.out; omega) hoki
            have HRES := Lib.hid hres; clear hres hoki k0 k1 k2 k3 k4 k5
            go_wp2_with fail
            go_ret
            exact ⟨by rw [HRES.out]; rfl, HW.out⟩
          · have ek : (kd == 0) = false := by rw [beq_eq_false_iff_ne]; exact hk
            have HK := Lib.hid hk
            clear hk
            cases i with
            | zero =>
              refine wp_region_class (Aft W0) (by kernel_rfl) (by kernel_rfl) (Aft.start W0) ?_
              repeat (go_big_quiet_step (first | with_reducible exact held_below Aft.keep (HRR.out _) | with_reducible exact held_below Aft.keep (HFI.out _)))
              refine wpQuiet_nil ?_
              rintro _ ⟨nn, rfl⟩
              have HW := Lib.hid (H0.out.2.2.1.trans ((H0.out.2.1.trans ((HeldW_spec nn : Below W0.heap.size W0 (HeldW nn)).mono H0.out.2.1.size)).mono H0.out.2.2.1.size))
              have hoki : okI L 0 = true := by
                rw [okI_zero HLI.out, HRF.out.1, HRF.out.2, decide_eq_false HK.out]; rfl
              have HOK2 := Lib.hid (show ∀ t, t < 0 + 1 → okI L t = true from fun t ht => by
                by_cases e : t = 0
                · rw [e]; exact hoki
                · exact HOK.out t (by omega))
              clear hoki k0 k1 k2 k3 k4 k5
              go_wp2_with fail
              go_roundw
              case rel => exact ⟨0 + 1, by omega, by go_num, HOK2.out, HW.out⟩
              case measure => simp [intOf]; omega
            | succ j =>
              have hjL : j < L.length := by omega
              have d0 := HCS.out.2 j hjL 0 (by omega)
              have d1 := HCS.out.2 j hjL 1 (by omega)
              have d2 := HCS.out.2 j hjL 2 (by omega)
              have d3 := HCS.out.2 j hjL 3 (by omega)
              have d4 := HCS.out.2 j hjL 4 (by omega)
              have d5 := HCS.out.2 j hjL 5 (by omega)
              have hmj := (HS.out.2 _ (List.getElem_mem hjL)).1
              have hLj := List.getElem?_eq_getElem hjL
              obtain ⟨⟨q', ⟨kd', md', tm', sz', sm'⟩⟩, hx⟩ : ∃ x, L[j] = x := ⟨_, rfl⟩
              simp only [hx] at d0 d1 d2 d3 d4 d5 hmj hLj
              simp only [eCM, List.getElem?_cons_succ, List.getElem?_cons_zero, Nat.add_zero] at d0 d1 d2 d3 d4 d5
              clear hx
              have HLJ := Lib.hid hLj; clear hLj
              have hbl : b < W0.heap.size := by have := HCS.out.1; have := H0.out.2.1.size; omega
              have j0 : ∀ m : Held (Aft W0), (HeldW m).cell? ⟨b, off + j * 6, none⟩ = some (.string q') := fun m => (Aft.cell m hbl).trans ((H0.out.2.1.cell (by show b < wr.heap.size; exact HCS.out.1)).trans d0)
              have j1 : ∀ m : Held (Aft W0), (HeldW m).cell? ⟨b, off + j * 6 + 1, none⟩ = some (.int .i64 kd') := fun m => (Aft.cell m hbl).trans ((H0.out.2.1.cell (by show b < wr.heap.size; exact HCS.out.1)).trans d1)
              have j2 : ∀ m : Held (Aft W0), (HeldW m).cell? ⟨b, off + j * 6 + 2, none⟩ = some (.int .i64 md') := fun m => (Aft.cell m hbl).trans ((H0.out.2.1.cell (by show b < wr.heap.size; exact HCS.out.1)).trans d2)
              have j3 : ∀ m : Held (Aft W0), (HeldW m).cell? ⟨b, off + j * 6 + 3, none⟩ = some (.int .u32 tm') := fun m => (Aft.cell m hbl).trans ((H0.out.2.1.cell (by show b < wr.heap.size; exact HCS.out.1)).trans d3)
              have j4 : ∀ m : Held (Aft W0), (HeldW m).cell? ⟨b, off + j * 6 + 4, none⟩ = some (.int .i64 sz') := fun m => (Aft.cell m hbl).trans ((H0.out.2.1.cell (by show b < wr.heap.size; exact HCS.out.1)).trans d4)
              have j5 : ∀ m : Held (Aft W0), (HeldW m).cell? ⟨b, off + j * 6 + 5, none⟩ = some (.int .u32 sm') := fun m => (Aft.cell m hbl).trans ((H0.out.2.1.cell (by show b < wr.heap.size; exact HCS.out.1)).trans d5)
              have HOR := Lib.hid (fun m : Held (Aft W0) => archOrd_any (HeldW m) (q', ⟨kd', md', tm', sz', sm'⟩) (q, ⟨kd, md, tm, sz, sm⟩) hmj HQ.out)
              simp only [eCM] at HOR
              have hwj : IntKind.i64.wrap ((j : Int) + 1 - 1) = j := by rw [show (j : Int) + 1 - 1 = j by omega]; exact IntWalk.i64_in _ (by omega)
              have hj0 : (j : Int) < n := by omega
              have hnn := ordS_three q' q
              clear d0 d1 d2 d3 d4 d5 hbl hmj
              by_cases ho : ordS q' q = -1
              · have HO := Lib.hid ho
                rw [ho] at HOR
                clear ho hnn
                refine wp_region_class (Aft W0) (by kernel_rfl) (by kernel_rfl) (Aft.start W0) ?_
                repeat (go_big_quiet_step (first | with_reducible exact held_below Aft.keep (HRR.out _) | with_reducible exact held_below Aft.keep (HFI.out _) | with_reducible exact held_below Aft.keep (HOR.out _)))
                refine wpQuiet_nil ?_
                rintro _ ⟨nn, rfl⟩
                have HW := Lib.hid (H0.out.2.2.1.trans ((H0.out.2.1.trans ((HeldW_spec nn : Below W0.heap.size W0 (HeldW nn)).mono H0.out.2.1.size)).mono H0.out.2.2.1.size))
                have hoki : okI L (j + 1) = true := by
                  rw [okI_succ HLI.out HLJ.out, HRF.out.1, HRF.out.2, decide_eq_false HK.out, decide_eq_true HO.out]; rfl
                have HOK2 := Lib.hid (show ∀ t, t < (j + 1) + 1 → okI L t = true from fun t ht => by
                  by_cases e : t = (j + 1)
                  · rw [e]; exact hoki
                  · exact HOK.out t (by omega))
                clear hoki k0 k1 k2 k3 k4 k5 j0 j1 j2 j3 j4 j5
                go_wp2_with fail
                go_roundw
                case rel => exact ⟨(j + 1) + 1, by omega, by go_num, HOK2.out, HW.out⟩
                case measure => simp [intOf]; omega
              · have HO := Lib.hid ho
                obtain ⟨r, hr⟩ : ∃ r, ordS q' q = r := ⟨_, rfl⟩
                have hr0 : 0 ≤ r := by rw [← hr]; omega
                rw [hr] at HOR
                clear ho hnn hr
                refine wp_region_class (Aft W0) (by kernel_rfl) (by kernel_rfl) (Aft.start W0) ?_
                repeat (go_big_quiet_step (first | with_reducible exact held_below Aft.keep (HRR.out _) | with_reducible exact held_below Aft.keep (HFI.out _) | with_reducible exact held_below Aft.keep (HOR.out _)))
                refine wpQuiet_nil ?_
                rintro _ ⟨nn, rfl⟩
                have HW := Lib.hid (H0.out.2.2.1.trans ((H0.out.2.1.trans ((HeldW_spec nn : Below W0.heap.size W0 (HeldW nn)).mono H0.out.2.1.size)).mono H0.out.2.2.1.size))
                have hoki : okI L (j + 1) = false := by
                  rw [okI_succ HLI.out HLJ.out, HRF.out.1, HRF.out.2, decide_eq_false HK.out, decide_eq_false HO.out]; rfl
                have hres := HNO.out (j + 1) (by have := HL.out; omega) hoki
                have HRES := Lib.hid hres; clear hres hoki k0 k1 k2 k3 k4 k5 j0 j1 j2 j3 j4 j5
                go_wp2_with fail
                go_ret
                exact ⟨by rw [HRES.out]; rfl, HW.out⟩
    · obtain rfl : i = n := by omega
      have HB := Lib.hid hb; clear hb hslr
      have hres := HYES.out (fun j hj => HOK.out j (by have := HL.out; omega))
      have HRES := Lib.hid hres; clear hres
      go_wp2_with fail
      go_ret
      exact ⟨by rw [HRES.out]; rfl, HB.out⟩
set_option maxRecDepth 100000 in
set_option maxHeartbeats 4000000 in
theorem archRight_any (w : World) (u1 u2 : Value) (l1 l2 : List MkE) (h1 : SlV w 6 eCM u1 l1) (h2 : SlV w 6 eCM u2 l2) (hn1 : l1.length ≤ 1000) (hn2 : l2.length ≤ 1000) (hin1 : ∀ m ∈ l1, MkInA m) (hin2 : ∀ m ∈ l2, MkInA m) :
    Calls Tryz.prog 12 #[.agg #[u1, u2]] w fun e w' => e = .returned (.bool (rightM l1 l2)) ∧ Below w.heap.size w w' := by
  obtain ⟨W, hW⟩ : ∃ W, w.alloc (.cells #[u1, u2] 32) = W := ⟨_, rfl⟩
  have hb0 : Below w.heap.size w W := by rw [← hW]; exact (Below.refl _ w).alloc (Nat.le_refl _) _
  have hB0 : Blk W w.heap.size 32 #[u1, u2] := by rw [← hW]; exact Blk.new w _ _
  have HR1 := Lib.hid (archRises_any W u1 l1 (h1.below hb0 (Nat.le_refl _)) hn1 hin1)
  have HR2 := Lib.hid (fun W' (hb : Below w.heap.size w W') => archRises_any W' u2 l2 (h2.below hb (Nat.le_refl _)) hn2 hin2)
  have HC := Lib.hid (fun W' (hb : Below w.heap.size w W') (hB : Blk W' w.heap.size 32 #[u1, u2]) => conR_any (fun m => (findM l1 m.1).isSome) (fun V => Blk V w.heap.size 32 #[u1, u2] ∧ Below w.heap.size w V) (fun V V' h hg => ⟨h.1.grown hg (by simp), h.2.grown hg h.2.size (fun k hk => by cases hk)⟩) W' u2 w.heap.size l2 (h2.below hb (Nat.le_refl _)) (by omega) ⟨hB, hb⟩ (fun V x hx hV => by
    obtain ⟨q, ⟨kd, md, tm, sz, sm⟩⟩ := x
    have hba := (Below.refl V.heap.size V).alloc (Nat.le_refl _) (.cells #[.string q, .int .i64 kd, .int .i64 md, .int .u32 tm, .int .i64 sz, .int .u32 sm] 61)
    have hH := archHas_any (V.alloc (.cells #[.string q, .int .i64 kd, .int .i64 md, .int .u32 tm, .int .i64 sz, .int .u32 sm] 61)) u1 l1 q (h1.below (hV.2.trans (hba.mono hV.2.size)) (Nat.le_refl _)) (by omega)
    have HH := Lib.hid hH
    have HA := Lib.hid hba
    have x0 := hV.1.cell 0
    have x1 := hV.1.cell 1
    have hlt := hV.1.lt
    simp only [List.getElem?_toArray, List.getElem?_cons_succ, List.getElem?_cons_zero] at x0 x1
    simp only [eCM]
    obtain ⟨A1, c1, rfl, _, _, _⟩ := h1
    obtain ⟨A2, c2, rfl, _, _, _⟩ := h2
    generalize (findM l1 q).isSome = R at *
    generalize l1.length = n1 at *
    generalize l2.length = n2 at *
    clear hH hba
    go_enter Tryz.func32, Tryz.ntmps32
    go_wp2_with fail
    refine HH.out.mono ?_
    rintro e V2 ⟨rfl, hb2⟩
    have H2 := Lib.hid (HA.out.trans (hb2.mono HA.out.size)); clear hb2
    go_wp2_with fail
    go_ret
    exact ⟨rfl, H2.out⟩))
  have x0 := hB0.cell 0
  have x1 := hB0.cell 1
  simp only [List.getElem?_toArray, List.getElem?_cons_succ, List.getElem?_cons_zero] at x0 x1
  have HW := Lib.hid (And.intro hW (And.intro hb0 hB0)); clear hW hb0 hB0
  rw [show rightM l1 l2 = (risesM l1 && (risesM l2 && !(l2.any fun m => (findM l1 m.1).isSome))) from rfl]
  obtain ⟨A1, c1, rfl, _, _, _⟩ := h1
  obtain ⟨A2, c2, rfl, _, _, _⟩ := h2
  generalize risesM l1 = R1 at *
  generalize risesM l2 = R2 at *
  generalize (l2.any fun m => (findM l1 m.1).isSome) = R3 at *
  generalize l1.length = n1 at *
  generalize l2.length = n2 at *
  go_enter Tryz.func12, Tryz.ntmps12
  go_upto_region 1 with fail
  rw [HW.out.1]
  go_wp2_with fail
  refine HR1.out.mono ?_
  rintro e w1 ⟨rfl, hb1⟩
  have hB1 := HW.out.2.2.below hb1 HW.out.2.2.lt
  have H1 := Lib.hid (And.intro (HW.out.2.1.trans (hb1.mono HW.out.2.1.size)) hB1)
  have y1 := hB1.cell 1
  simp only [List.getElem?_toArray, List.getElem?_cons_succ, List.getElem?_cons_zero] at y1
  clear hb1 hB1 x0 x1 HR1
  cases R1 with
  | false =>
    go_wp2_with fail
    go_ret
    exact ⟨rfl, H1.out.1⟩
  | true =>
    go_wp2_with fail
    refine (HR2.out w1 H1.out.1).mono ?_
    rintro e w2 ⟨rfl, hb2⟩
    have hB2 := H1.out.2.below hb2 H1.out.2.lt
    have H2 := Lib.hid (And.intro (H1.out.1.trans (hb2.mono H1.out.1.size)) hB2)
    have z1 := hB2.cell 1
    simp only [List.getElem?_toArray, List.getElem?_cons_succ, List.getElem?_cons_zero] at z1
    clear hb2 hB2 y1 HR2
    cases R2 with
    | false =>
      go_wp2_with fail
      go_ret
      exact ⟨rfl, H2.out.1⟩
    | true =>
      go_wp2_with fail
      refine (HC.out w2 H2.out.1 H2.out.2).mono ?_
      rintro e w3 ⟨rfl, hb3⟩
      have H3 := Lib.hid (H2.out.1.trans (hb3.mono H2.out.1.size))
      clear hb3 z1 HC
      go_wp2_with fail
      go_ret
      exact ⟨rfl, H3.out⟩
end Go.Proofs.YtjcbjocgachpjaaGreatDoor
