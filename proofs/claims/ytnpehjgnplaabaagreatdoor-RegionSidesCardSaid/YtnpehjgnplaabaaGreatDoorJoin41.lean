/- Several texts, joined for the limit of sixty files; each one opens with its own comment. -/
import Derived.Test.YtnpehjgnplaabaaGreatDoorJoin40
import Derived.Test.YtnpehjgnplaabaaGreatDoorJoin2
import Derived.Test.YtnpehjgnplaabaaGreatDoorJoin9
import Derived.Test.YtnpehjgnplaabaaGreatDoorJoin3
import Derived.Test.YtnpehjgnplaabaaGreatDoorJoin26
import Derived.Test.YtnpehjgnplaabaaGreatDoorJoin20
import Derived.Test.YtnpehjgnplaabaaGreatDoorJoin18
/- Several texts, joined for the limit of sixty files; each one opens with its own comment. -/
/- Regions, plainly: what is held, and what clashed, path by path. -/
set_option linter.unusedVariables false
set_option linter.unusedSimpArgs false
namespace Sw
open Go Go.Proofs.YtnpehjgnplaabaaGreatDoor
theorem getT_side {xs ys : List NE} (hx : TI xs) (hy : TI ys) {l : List NP} (f : NP → Nd) (hf : ∀ n ∈ l, f n = getT xs n.path ∨ f n = getT ys n.path) (hr : Rise (l.map NP.path)) {n : NP} (hn : n ∈ l) : getT (l.flatMap fun n => oneN n.path (f n)) n.path = f n := by
  have hup := one_up f l hr
  by_cases hk : (f n).kind = 0
  · have h0 : f n = ndZ := by
      rcases hf n hn with e | e
      · rw [e] at hk ⊢; exact getT_zero hx _ hk
      · rw [e] at hk ⊢; exact getT_zero hy _ hk
    rw [h0]
    refine getT_out hup (fun e he e2 => ?_)
    obtain ⟨m, hm, he⟩ := List.mem_flatMap.1 he
    obtain ⟨rfl, hmk⟩ := one_mem.1 he
    simp only at e2
    have h1 := fN_mem hr hm
    have h2 := fN_mem hr hn
    rw [e2, h2] at h1
    cases h1
    exact hmk hk
  · exact getT_in hup (e := (n.path, f n)) (List.mem_flatMap.2 ⟨n, hn, one_mem.2 ⟨rfl, hk⟩⟩)
theorem held_paths {policy : Int} {xs ys : List NE} (hx : TI xs) (hy : TI ys) (L : List MkE) {l : List NP} (hs : ∀ n ∈ l, ShN policy xs ys n) (hr : Rise (l.map NP.path)) : (l.map NP.path).filterMap (heldP L (leftN l) (rightN l)) = heldN L l := by
  unfold heldN
  rw [List.filterMap_map]
  have hc : ∀ (m : List NP), (∀ n ∈ m, n ∈ l) → m.filterMap (heldP L (leftN l) (rightN l) ∘ NP.path) = m.filterMap fun n => if (findM L n.path).isSome = true ∧ ¬ printN n.left = printN n.right then some (n.path, (findM L n.path).getD ⟨0, 0, 0, 0, 0⟩) else none := by
    intro m
    induction m with
    | nil => intro _; rfl
    | cons n m ih =>
      intro hm
      rw [List.filterMap_cons, List.filterMap_cons, ih (fun k hk => hm k (List.mem_cons_of_mem _ hk))]
      have hn := hm n (List.mem_cons_self ..)
      have e1 : getT (leftN l) n.path = n.left := getT_side hx hy NP.left (fun k hk => (hs k hk).1.1) hr hn
      have e2 : getT (rightN l) n.path = n.right := getT_side hx hy NP.right (fun k hk => (hs k hk).1.2) hr hn
      simp only [Function.comp, heldP, e1, e2]
  exact hc l (fun _ h => h)
/-- a path's clash -/
def clsP (n : NP) : Option (ByteArray × Int) := if n.cls = 0 then none else some (n.path, n.cls)
theorem clash_take (l : List NP) (i : Nat) (h : i < l.length) : clashN (l.take (i + 1)) = clashN (l.take i) ++ (clsP l[i]).toList := by
  unfold clashN
  rw [List.take_succ_eq_append_getElem h, List.filterMap_append]
  unfold clsP
  cases hh : (if l[i].cls = 0 then none else some (l[i].path, l[i].cls)) with
  | none => simp [hh]
  | some c => simp [hh]
theorem lkC_mem {l : List NP} (hr : Rise (l.map NP.path)) {n : NP} (hn : n ∈ l) : lkC l n.path = if n.cls = 0 then none else some (.int .i64 n.cls) := by
  unfold lkC
  rw [fN_mem hr hn]
  rfl
theorem run_at {policy : Int} {xs ys : List NE} {l : List NP} (hr : Rise (l.map NP.path)) {i : Nat} (h : i < l.length) : ∃ m ∈ (runN policy xs ys l i).1, m.path = l[i].path ∧ runN policy xs ys l (i + 1) = goN policy xs ys (runN policy xs ys l i) m := by
  have hi : i < (runN policy xs ys l i).1.length := by rw [run_len]; exact h
  refine ⟨(runN policy xs ys l i).1[i], List.getElem_mem hi, ?_, ?_⟩
  · have h1 := run_path (policy := policy) (xs := xs) (ys := ys) (l := l) i
    have h2 := congrArg (fun q => q[i]?) h1
    simpa [hi, h] using h2
  · conv => lhs; unfold runN
    rw [List.getElem?_eq_getElem hi]
theorem run_graft {policy : Int} {xs ys : List NE} {l : List NP} (i : Nat) : (runN policy xs ys l i).2.length ≤ i := by
  induction i with
  | zero => simp [runN]
  | succ i ih =>
    unfold runN
    split
    · unfold goN
      split
      · simp only
        split
        · simp; exact ih
        · omega
      · omega
    · omega
theorem begin_len (policy : Int) (L : List MkE) (xs ys : List NE) : (beginN policy L xs ys).length ≤ L.length + xs.length + ys.length := by
  unfold beginN allR
  rw [List.length_map, List.length_map]
  refine Nat.le_trans (pathsS_len _) ?_
  simp only [List.length_append, List.length_map]
  omega
end Sw
/- slices.IndexFunc, ContainsFunc of rows of marks, by the predicates of package archive. -/
set_option linter.unusedVariables false
set_option linter.unusedSimpArgs false
namespace Go.Proofs.YtnpehjgnplaabaaGreatDoor
open Go Go.RowKit
open Sw
def IdxPostM (p : MkE → Bool) (l : List MkE) (w : World) (e : Ending) (w' : World) : Prop :=
  ((∃ i : Nat, ∃ h : i < l.length, (∀ m (h : m < l.length), m < i → p l[m] = false) ∧ p l[i] = true ∧ e = .returned (.int .i64 i)) ∨ ((∀ x ∈ l, p x = false) ∧ e = .returned (.int .i64 (-1)))) ∧ Below w.heap.size w w'
set_option maxRecDepth 100000 in
set_option maxHeartbeats 4000000 in
theorem idxH_any (p : MkE → Bool) (C : World → Prop) (hC : ∀ W W', C W → W.grownBy W' none → C W') (w : World) (A : Option Addr) (n c g : Nat) (l : List MkE) (hl : l.length = n) (hn : n ≤ 1000000) (hsl : SlOf w 6 eCM A l) (h0 : C w)
    (hcall : ∀ W x, x ∈ l → C W → Calls Tryz.prog 87 #[.agg (eCM x).toArray, .pointer (some ⟨g, 0, none⟩)] W fun e w' => e = .returned (.bool (p x)) ∧ Below W.heap.size W w') :
    Calls Tryz.prog 90 #[.slice A n c, .func (.func 87) #[] #[.pointer (some ⟨g, 0, none⟩)]] w (IdxPostM p l w) := by
  have HS := Lib.hid hsl; clear hsl
  have HL := Lib.hid hl; clear hl
  have HC := Lib.hid hC; clear hC
  have HCL := Lib.hid hcall; clear hcall
  have H0 := Lib.hid h0; clear h0
  go_enter Tryz.func90, Tryz.ntmps90
  go_wp2_with fail
  go_loopw [8] (fun iv wr => ∃ i : Nat, i ≤ n ∧ iv = .int .i64 i ∧ (∀ m (h : m < l.length), m < i → p l[m] = false) ∧ Below w.heap.size w wr) (fun iv _ => n - (intOf iv).toNat)
  case atStart => exact ⟨0, Nat.zero_le _, rfl, fun m h h' => absurd h' (Nat.not_lt_zero _), Below.refl _ _⟩
  case round =>
    obtain ⟨i, hin, rfl, hno, hbr⟩ := hrel
    have HNO := Lib.hid hno; clear hno
    by_cases hlt : i < n
    · have hiL : i < l.length := by have := HL.out; omega
      obtain ⟨b, off, rfl, hbb, hcs⟩ := (HS.out.below hbr (Nat.le_refl _)) (by omega)
      have c0 := hcs i hiL 0 (by omega)
      have c1 := hcs i hiL 1 (by omega)
      have c2 := hcs i hiL 2 (by omega)
      have c3' := hcs i hiL 3 (by omega)
      have c4 := hcs i hiL 4 (by omega)
      have c5 := hcs i hiL 5 (by omega)
      simp only [eCM, List.getElem?_cons_succ, List.getElem?_cons_zero, Nat.add_zero] at c0 c1 c2 c3' c4 c5
      have HF := Lib.hid (HCL.out wr l[i] (List.getElem_mem hiL) (HC.out w wr H0.out (grown_below hbr)))
      have HYES := Lib.hid (fun (hp : p l[i] = true) w' (hb : Below w.heap.size w w') => (⟨.inl ⟨i, hiL, HNO.out, hp, rfl⟩, hb⟩ : IdxPostM p l w (.returned (.int .i64 i)) w'))
      have HNO2 := Lib.hid (fun (hp : p l[i] = false) m (hm : m < l.length) (hmi : m < i + 1) => (by
        by_cases e : m = i
        · subst e; exact hp
        · exact HNO.out m hm (by omega) : p l[m] = false))
      generalize p l[i] = pv at *
      generalize l[i] = X at *
      obtain ⟨q, ⟨kd, md, tm, sz, sm⟩⟩ := X
      simp only [eCM] at HF
      simp only at c0 c1 c2 c3' c4 c5
      have q2 : (i : Int) < n := by omega
      clear hcs
      cases pv with
      | true =>
        have hyes := HYES.out rfl
        have HYES2 := Lib.hid hyes; clear hyes HYES HNO2
        go_wp2_with fail
        refine HF.out.mono ?_
        rintro e w2 ⟨rfl, hb2⟩
        have HP := Lib.hid (HYES2.out w2 (hbr.trans (hb2.mono hbr.size)))
        clear HF HNO
        go_wp2_with fail
        go_ret
        exact HP.out
      | false =>
        have hno2 := HNO2.out rfl
        have HNO3 := Lib.hid hno2; clear hno2 HYES HNO2
        go_wp2_with fail
        refine HF.out.mono ?_
        rintro e w2 ⟨rfl, hb2⟩
        have HP := Lib.hid (And.intro HNO3.out (hbr.trans (hb2.mono hbr.size)))
        clear HF HNO
        go_wp2_with fail
        go_roundw
        case rel => exact ⟨i + 1, by omega, by go_num, HP.out.1, HP.out.2⟩
        case measure => simp [intOf]; omega
    · obtain rfl : i = n := by omega
      have hpst : IdxPostM p l w (.returned (.int .i64 (-1))) wr := ⟨.inr ⟨fun x hx => by
        obtain ⟨m, hm, rfl⟩ := List.mem_iff_getElem.1 hx
        exact HNO.out m hm (by have := HL.out; omega), rfl⟩, hbr⟩
      have HP := Lib.hid hpst; clear hpst
      go_wp2_with fail
      go_ret
      exact HP.out
set_option maxRecDepth 100000 in
theorem conH_any (p : MkE → Bool) (C : World → Prop) (hC : ∀ W W', C W → W.grownBy W' none → C W') (w : World) (v : Value) (g : Nat) (l : List MkE) (hv : SlV w 6 eCM v l) (hn : l.length ≤ 1000000) (h0 : C w)
    (hcall : ∀ W x, x ∈ l → C W → Calls Tryz.prog 87 #[.agg (eCM x).toArray, .pointer (some ⟨g, 0, none⟩)] W fun e w' => e = .returned (.bool (p x)) ∧ Below W.heap.size W w') :
    Calls Tryz.prog 54 #[v, .func (.func 87) #[] #[.pointer (some ⟨g, 0, none⟩)]] w fun e w' => e = .returned (.bool (l.any p)) ∧ Below w.heap.size w w' := by
  obtain ⟨A, c, rfl, _, _, hsl⟩ := hv
  have HI := Lib.hid (idxH_any p C hC w A l.length c g l rfl hn hsl h0 hcall)
  clear hsl h0 hcall hC
  generalize hz : l.length = n at *
  have HZ := Lib.hid hz; clear hz
  go_enter Tryz.func54, Tryz.ntmps54
  go_wp2_with fail
  refine HI.out.mono ?_
  rintro e w1 ⟨⟨i, hi, _, hp, rfl⟩ | ⟨hno, rfl⟩, hb⟩
  · have h1 : l.any p = true := List.any_eq_true.2 ⟨l[i], List.getElem_mem hi, hp⟩
    have H1 := Lib.hid (And.intro h1 hb)
    have hi0 : (0 : Int) ≤ i := by omega
    clear h1 hb HI hp
    go_wp2_with fail
    go_ret
    exact ⟨by rw [H1.out.1]; rfl, H1.out.2⟩
  · have h1 : l.any p = false := by
      rw [Bool.eq_false_iff]
      intro h
      obtain ⟨m, hm, hp⟩ := List.any_eq_true.1 h
      have h2 := hno m hm
      rw [h2] at hp
      cases hp
    have H1 := Lib.hid (And.intro h1 hb)
    clear h1 hb HI hno
    go_wp2_with fail
    go_ret
    exact ⟨by rw [H1.out.1]; rfl, H1.out.2⟩
theorem strMk (s t : ByteArray) : (s.toList == t.toList) = decide (s = t) := by
  rw [ByteArray.toList_eq, ByteArray.toList_eq]
  by_cases h : s = t
  · subst h
    rw [decide_eq_true rfl]
    simp
  · rw [decide_eq_false h, beq_eq_false_iff_ne]
    intro e
    exact h (ByteArray.ext (Array.ext' e))
theorem any_findM (l : List MkE) (p : ByteArray) : (l.any fun m => decide (m.1 = p)) = (findM l p).isSome := by
  induction l with
  | nil => rfl
  | cons m l ih =>
    rw [List.any_cons, findM_cons, ih]
    by_cases h : m.1 = p
    · rw [decide_eq_true h, if_pos h]; rfl
    · rw [decide_eq_false h, if_neg h]; rfl
set_option maxRecDepth 100000 in
theorem archHas_any (w : World) (v : Value) (l : List MkE) (p : ByteArray) (hv : SlV w 6 eCM v l) (hn : l.length ≤ 1000000) :
    Calls Tryz.prog 52 #[v, .string p] w fun e w' => e = .returned (.bool (findM l p).isSome) ∧ Below w.heap.size w w' := by
  have hb0 := (Below.refl w.heap.size w).alloc (Nat.le_refl _) (.cells #[.string p] 9)
  have hB0 := Blk.new w 9 #[.string p]
  have HC := Lib.hid (conH_any (fun m => decide (m.1 = p)) (fun W => Blk W w.heap.size 9 #[.string p]) (fun W W' h hg => h.grown hg (by simp)) _ v w.heap.size l (hv.below hb0 (Nat.le_refl _)) hn hB0 (fun W x hx hB => by
    obtain ⟨q, ⟨kd, md, tm, sz, sm⟩⟩ := x
    have x0 := hB.cell 0
    simp at x0
    have hse := strMk q p
    simp only [eCM]
    have hba := (Below.refl W.heap.size W).alloc (Nat.le_refl _) (.cells #[.string q, .int .i64 kd, .int .i64 md, .int .u32 tm, .int .i64 sz, .int .u32 sm] 63)
    have HA := Lib.hid hba; clear hba
    have hlt := hB.lt
    generalize decide (q = p) = R at *
    go_enter Tryz.func87, Tryz.ntmps87
    go_wp2_with fail
    go_ret
    exact ⟨rfl, HA.out⟩))
  rw [any_findM] at HC
  generalize (findM l p).isSome = R at *
  have HB := Lib.hid hb0; clear hb0 hB0
  obtain ⟨A, c, rfl, _, _, _⟩ := hv
  generalize l.length = n at *
  go_enter Tryz.func52, Tryz.ntmps52
  go_wp2_with fail
  refine HC.out.mono ?_
  rintro e w1 ⟨rfl, hb⟩
  have H1 := Lib.hid (HB.out.trans (hb.mono HB.out.size)); clear hb HC
  go_wp2_with fail
  go_ret
  exact ⟨rfl, H1.out⟩
set_option maxRecDepth 100000 in
set_option maxHeartbeats 4000000 in
theorem idxR_any (p : MkE → Bool) (C : World → Prop) (hC : ∀ W W', C W → W.grownBy W' none → C W') (w : World) (A : Option Addr) (n c g : Nat) (l : List MkE) (hl : l.length = n) (hn : n ≤ 1000000) (hsl : SlOf w 6 eCM A l) (h0 : C w)
    (hcall : ∀ W x, x ∈ l → C W → Calls Tryz.prog 51 #[.agg (eCM x).toArray, .pointer (some ⟨g, 0, none⟩)] W fun e w' => e = .returned (.bool (p x)) ∧ Below W.heap.size W w') :
    Calls Tryz.prog 90 #[.slice A n c, .func (.func 51) #[] #[.pointer (some ⟨g, 0, none⟩)]] w (IdxPostM p l w) := by
  have HS := Lib.hid hsl; clear hsl
  have HL := Lib.hid hl; clear hl
  have HC := Lib.hid hC; clear hC
  have HCL := Lib.hid hcall; clear hcall
  have H0 := Lib.hid h0; clear h0
  go_enter Tryz.func90, Tryz.ntmps90
  go_wp2_with fail
  go_loopw [8] (fun iv wr => ∃ i : Nat, i ≤ n ∧ iv = .int .i64 i ∧ (∀ m (h : m < l.length), m < i → p l[m] = false) ∧ Below w.heap.size w wr) (fun iv _ => n - (intOf iv).toNat)
  case atStart => exact ⟨0, Nat.zero_le _, rfl, fun m h h' => absurd h' (Nat.not_lt_zero _), Below.refl _ _⟩
  case round =>
    obtain ⟨i, hin, rfl, hno, hbr⟩ := hrel
    have HNO := Lib.hid hno; clear hno
    by_cases hlt : i < n
    · have hiL : i < l.length := by have := HL.out; omega
      obtain ⟨b, off, rfl, hbb, hcs⟩ := (HS.out.below hbr (Nat.le_refl _)) (by omega)
      have c0 := hcs i hiL 0 (by omega)
      have c1 := hcs i hiL 1 (by omega)
      have c2 := hcs i hiL 2 (by omega)
      have c3' := hcs i hiL 3 (by omega)
      have c4 := hcs i hiL 4 (by omega)
      have c5 := hcs i hiL 5 (by omega)
      simp only [eCM, List.getElem?_cons_succ, List.getElem?_cons_zero, Nat.add_zero] at c0 c1 c2 c3' c4 c5
      have HF := Lib.hid (HCL.out wr l[i] (List.getElem_mem hiL) (HC.out w wr H0.out (grown_below hbr)))
      have HYES := Lib.hid (fun (hp : p l[i] = true) w' (hb : Below w.heap.size w w') => (⟨.inl ⟨i, hiL, HNO.out, hp, rfl⟩, hb⟩ : IdxPostM p l w (.returned (.int .i64 i)) w'))
      have HNO2 := Lib.hid (fun (hp : p l[i] = false) m (hm : m < l.length) (hmi : m < i + 1) => (by
        by_cases e : m = i
        · subst e; exact hp
        · exact HNO.out m hm (by omega) : p l[m] = false))
      generalize p l[i] = pv at *
      generalize l[i] = X at *
      obtain ⟨q, ⟨kd, md, tm, sz, sm⟩⟩ := X
      simp only [eCM] at HF
      simp only at c0 c1 c2 c3' c4 c5
      have q2 : (i : Int) < n := by omega
      clear hcs
      cases pv with
      | true =>
        have hyes := HYES.out rfl
        have HYES2 := Lib.hid hyes; clear hyes HYES HNO2
        go_wp2_with fail
        refine HF.out.mono ?_
        rintro e w2 ⟨rfl, hb2⟩
        have HP := Lib.hid (HYES2.out w2 (hbr.trans (hb2.mono hbr.size)))
        clear HF HNO
        go_wp2_with fail
        go_ret
        exact HP.out
      | false =>
        have hno2 := HNO2.out rfl
        have HNO3 := Lib.hid hno2; clear hno2 HYES HNO2
        go_wp2_with fail
        refine HF.out.mono ?_
        rintro e w2 ⟨rfl, hb2⟩
        have HP := Lib.hid (And.intro HNO3.out (hbr.trans (hb2.mono hbr.size)))
        clear HF HNO
        go_wp2_with fail
        go_roundw
        case rel => exact ⟨i + 1, by omega, by go_num, HP.out.1, HP.out.2⟩
        case measure => simp [intOf]; omega
    · obtain rfl : i = n := by omega
      have hpst : IdxPostM p l w (.returned (.int .i64 (-1))) wr := ⟨.inr ⟨fun x hx => by
        obtain ⟨m, hm, rfl⟩ := List.mem_iff_getElem.1 hx
        exact HNO.out m hm (by have := HL.out; omega), rfl⟩, hbr⟩
      have HP := Lib.hid hpst; clear hpst
      go_wp2_with fail
      go_ret
      exact HP.out
set_option maxRecDepth 100000 in
theorem conR_any (p : MkE → Bool) (C : World → Prop) (hC : ∀ W W', C W → W.grownBy W' none → C W') (w : World) (v : Value) (g : Nat) (l : List MkE) (hv : SlV w 6 eCM v l) (hn : l.length ≤ 1000000) (h0 : C w)
    (hcall : ∀ W x, x ∈ l → C W → Calls Tryz.prog 51 #[.agg (eCM x).toArray, .pointer (some ⟨g, 0, none⟩)] W fun e w' => e = .returned (.bool (p x)) ∧ Below W.heap.size W w') :
    Calls Tryz.prog 54 #[v, .func (.func 51) #[] #[.pointer (some ⟨g, 0, none⟩)]] w fun e w' => e = .returned (.bool (l.any p)) ∧ Below w.heap.size w w' := by
  obtain ⟨A, c, rfl, _, _, hsl⟩ := hv
  have HI := Lib.hid (idxR_any p C hC w A l.length c g l rfl hn hsl h0 hcall)
  clear hsl h0 hcall hC
  generalize hz : l.length = n at *
  have HZ := Lib.hid hz; clear hz
  go_enter Tryz.func54, Tryz.ntmps54
  go_wp2_with fail
  refine HI.out.mono ?_
  rintro e w1 ⟨⟨i, hi, _, hp, rfl⟩ | ⟨hno, rfl⟩, hb⟩
  · have h1 : l.any p = true := List.any_eq_true.2 ⟨l[i], List.getElem_mem hi, hp⟩
    have H1 := Lib.hid (And.intro h1 hb)
    have hi0 : (0 : Int) ≤ i := by omega
    clear h1 hb HI hp
    go_wp2_with fail
    go_ret
    exact ⟨by rw [H1.out.1]; rfl, H1.out.2⟩
  · have h1 : l.any p = false := by
      rw [Bool.eq_false_iff]
      intro h
      obtain ⟨m, hm, hp⟩ := List.any_eq_true.1 h
      have h2 := hno m hm
      rw [h2] at hp
      cases hp
    have H1 := Lib.hid (And.intro h1 hb)
    clear h1 hb HI hno
    go_wp2_with fail
    go_ret
    exact ⟨by rw [H1.out.1]; rfl, H1.out.2⟩
end Go.Proofs.YtnpehjgnplaabaaGreatDoor
/- node.Fine: which prints may be. -/
set_option linter.unusedVariables false
set_option linter.unusedSimpArgs false
namespace Sw
open Go
def fineP (p : Pr) : Bool :=
  if p.kind = 0 then decide (p = ⟨0, 0, 0, 0, 0⟩)
  else if p.kind = 2 then decide (0 ≤ p.mode ∧ p.mode ≤ 511) && ((p.time == 0) && ((p.size == 0) && (p.sum == 0)))
  else if p.kind = 1 then decide (0 ≤ p.mode ∧ p.mode ≤ 511) && (decide (splitD p.time).Ok && (decide (0 ≤ p.size) && (decide (p.size ≤ 65000) && (decide (0 < p.size) || (p.sum == 0)))))
  else false
end Sw
namespace Go.Proofs.YtnpehjgnplaabaaGreatDoor
open Go Go.RowKit
open Sw
set_option maxRecDepth 100000 in
set_option maxHeartbeats 4000000 in
theorem nodeFine_any (w : World) (p : Pr) (ht0 : 0 ≤ p.time) (ht1 : p.time < 4294967296) :
    Calls Tryz.prog 88 #[.agg p.c] w fun e w' => e = .returned (.bool (fineP p)) ∧ Below w.heap.size w w' := by
  obtain ⟨kd, md, tm, sz, sm⟩ := p
  simp only at ht0 ht1
  have hb0 := (Below.refl w.heap.size w).alloc (Nat.le_refl _) (.cells #[.int .i64 kd, .int .i64 md, .int .u32 tm, .int .i64 sz, .int .u32 sm] 61)
  have hB0 := Blk.new w 61 #[.int .i64 kd, .int .i64 md, .int .u32 tm, .int .i64 sz, .int .u32 sm]
  have HB := Lib.hid (And.intro hb0 hB0); clear hb0 hB0
  have HM := Lib.hid (fun W => nodeMode_any W md)
  have HD := Lib.hid (fun W => dosRight_any W tm ht0 ht1)
  clear ht0 ht1
  unfold Pr.c
  by_cases k0 : kd = 0
  · subst k0
    have hq := fun W => eq_print ⟨0, md, tm, sz, sm⟩ ⟨0, 0, 0, 0, 0⟩ W
    have hF : fineP ⟨0, md, tm, sz, sm⟩ = decide ((⟨0, md, tm, sz, sm⟩ : Pr) = ⟨0, 0, 0, 0, 0⟩) := rfl
    rw [hF]
    clear hF HM HD
    generalize decide ((⟨0, md, tm, sz, sm⟩ : Pr) = ⟨0, 0, 0, 0, 0⟩) = R at *
    unfold Pr.c at hq
    go_enter Tryz.func88, Tryz.ntmps88
    go_wp2_with fail
    go_ret
    exact ⟨rfl, HB.out.1⟩
  have e0 : (kd == 0) = false := by rw [beq_eq_false_iff_ne]; exact k0
  by_cases k2 : kd = 2
  · subst k2
    have hF : fineP ⟨2, md, tm, sz, sm⟩ = (decide (0 ≤ md ∧ md ≤ 511) && ((tm == 0) && ((sz == 0) && (sm == 0)))) := rfl
    rw [hF]
    clear hF HD k0 e0
    generalize decide (0 ≤ md ∧ md ≤ 511) = R at *
    obtain ⟨q1, hq1⟩ : ∃ q, (tm == 0) = q := ⟨_, rfl⟩
    obtain ⟨q2, hq2⟩ : ∃ q, (sz == 0) = q := ⟨_, rfl⟩
    obtain ⟨q3, hq3⟩ : ∃ q, (sm == 0) = q := ⟨_, rfl⟩
    rw [hq1, hq2, hq3]
    cases R
    · go_enter Tryz.func88, Tryz.ntmps88
      go_wp2_with fail
      refine (HM.out _).mono ?_
      rintro e w1 ⟨rfl, rfl⟩
      go_wp2_with fail
      go_ret
      exact ⟨rfl, HB.out.1⟩
    cases q1
    · go_enter Tryz.func88, Tryz.ntmps88
      go_wp2_with fail
      refine (HM.out _).mono ?_
      rintro e w1 ⟨rfl, rfl⟩
      go_wp2_with fail
      go_ret
      exact ⟨rfl, HB.out.1⟩
    cases q2
    · go_enter Tryz.func88, Tryz.ntmps88
      go_wp2_with fail
      refine (HM.out _).mono ?_
      rintro e w1 ⟨rfl, rfl⟩
      go_wp2_with fail
      go_ret
      exact ⟨rfl, HB.out.1⟩
    · go_enter Tryz.func88, Tryz.ntmps88
      go_wp2_with fail
      refine (HM.out _).mono ?_
      rintro e w1 ⟨rfl, rfl⟩
      go_wp2_with fail
      go_ret
      exact ⟨rfl, HB.out.1⟩
  have e2 : (kd == 2) = false := by rw [beq_eq_false_iff_ne]; exact k2
  by_cases k1 : kd = 1
  · subst k1
    have hF : fineP ⟨1, md, tm, sz, sm⟩ = (decide (0 ≤ md ∧ md ≤ 511) && (decide (splitD tm).Ok && (decide (0 ≤ sz) && (decide (sz ≤ 65000) && (decide (0 < sz) || (sm == 0)))))) := rfl
    rw [hF]
    clear hF k0 e0 k2 e2
    generalize decide (0 ≤ md ∧ md ≤ 511) = R at *
    generalize decide (splitD tm).Ok = T at *
    obtain ⟨q3, hq3⟩ : ∃ q, (sm == 0) = q := ⟨_, rfl⟩
    rw [hq3]
    cases R
    · go_enter Tryz.func88, Tryz.ntmps88
      go_wp2_with fail
      refine (HM.out _).mono ?_
      rintro e w1 ⟨rfl, rfl⟩
      go_wp2_with fail
      go_ret
      exact ⟨rfl, HB.out.1⟩
    cases T
    · go_enter Tryz.func88, Tryz.ntmps88
      go_wp2_with fail
      refine (HM.out _).mono ?_
      rintro e w1 ⟨rfl, rfl⟩
      go_wp2_with fail
      refine (HD.out _).mono ?_
      rintro e w2 ⟨rfl, hb⟩
      have H2 := Lib.hid (HB.out.1.trans (hb.mono HB.out.1.size)); clear hb
      go_wp2_with fail
      go_ret
      exact ⟨rfl, H2.out⟩
    by_cases s0 : 0 ≤ sz
    · rw [decide_eq_true s0]
      by_cases s1 : sz ≤ 65000
      · rw [decide_eq_true s1]
        by_cases s2 : 0 < sz
        · rw [decide_eq_true s2]
          go_enter Tryz.func88, Tryz.ntmps88
          go_wp2_with fail
          refine (HM.out _).mono ?_
          rintro e w1 ⟨rfl, rfl⟩
          go_wp2_with fail
          refine (HD.out _).mono ?_
          rintro e w2 ⟨rfl, hb⟩
          have hB2 := HB.out.2.below hb HB.out.2.lt
          have x3 := hB2.cell 3
          have x4 := hB2.cell 4
          simp at x3 x4
          have H2 := Lib.hid (HB.out.1.trans (hb.mono HB.out.1.size)); clear hb hB2
          go_wp2_with fail
          go_ret
          exact ⟨rfl, H2.out⟩
        · rw [decide_eq_false s2]
          cases q3
          · go_enter Tryz.func88, Tryz.ntmps88
            go_wp2_with fail
            refine (HM.out _).mono ?_
            rintro e w1 ⟨rfl, rfl⟩
            go_wp2_with fail
            refine (HD.out _).mono ?_
            rintro e w2 ⟨rfl, hb⟩
            have hB2 := HB.out.2.below hb HB.out.2.lt
            have x3 := hB2.cell 3
            have x4 := hB2.cell 4
            simp at x3 x4
            have H2 := Lib.hid (HB.out.1.trans (hb.mono HB.out.1.size)); clear hb hB2
            go_wp2_with fail
            go_ret
            first | exact ⟨rfl, H2.out⟩ | (refine ⟨?_, H2.out⟩; show Ending.returned (.bool (decide (0 < sz))) = _; rw [decide_eq_false (by omega)]; rfl)
          · go_enter Tryz.func88, Tryz.ntmps88
            go_wp2_with fail
            refine (HM.out _).mono ?_
            rintro e w1 ⟨rfl, rfl⟩
            go_wp2_with fail
            refine (HD.out _).mono ?_
            rintro e w2 ⟨rfl, hb⟩
            have hB2 := HB.out.2.below hb HB.out.2.lt
            have x3 := hB2.cell 3
            have x4 := hB2.cell 4
            simp at x3 x4
            have H2 := Lib.hid (HB.out.1.trans (hb.mono HB.out.1.size)); clear hb hB2
            go_wp2_with fail
            go_ret
            first | exact ⟨rfl, H2.out⟩ | (refine ⟨?_, H2.out⟩; show Ending.returned (.bool (decide (0 < sz))) = _; rw [decide_eq_false (by omega)]; rfl)
      · rw [decide_eq_false s1]
        go_enter Tryz.func88, Tryz.ntmps88
        go_wp2_with fail
        refine (HM.out _).mono ?_
        rintro e w1 ⟨rfl, rfl⟩
        go_wp2_with fail
        refine (HD.out _).mono ?_
        rintro e w2 ⟨rfl, hb⟩
        have hB2 := HB.out.2.below hb HB.out.2.lt
        have x3 := hB2.cell 3
        have x4 := hB2.cell 4
        simp at x3 x4
        have H2 := Lib.hid (HB.out.1.trans (hb.mono HB.out.1.size)); clear hb hB2
        go_wp2_with fail
        go_ret
        exact ⟨rfl, H2.out⟩
    · rw [decide_eq_false s0]
      go_enter Tryz.func88, Tryz.ntmps88
      go_wp2_with fail
      refine (HM.out _).mono ?_
      rintro e w1 ⟨rfl, rfl⟩
      go_wp2_with fail
      refine (HD.out _).mono ?_
      rintro e w2 ⟨rfl, hb⟩
      have hB2 := HB.out.2.below hb HB.out.2.lt
      have x3 := hB2.cell 3
      have x4 := hB2.cell 4
      simp at x3 x4
      have H2 := Lib.hid (HB.out.1.trans (hb.mono HB.out.1.size)); clear hb hB2
      go_wp2_with fail
      go_ret
      exact ⟨rfl, H2.out⟩
  have e1 : (kd == 1) = false := by rw [beq_eq_false_iff_ne]; exact k1
  have hF : fineP ⟨kd, md, tm, sz, sm⟩ = false := by unfold fineP; simp only; rw [if_neg k0, if_neg k2, if_neg k1]
  rw [hF]
  clear hF
  go_enter Tryz.func88, Tryz.ntmps88
  go_wp2_with fail
  go_ret
  exact ⟨rfl, HB.out.1⟩
end Go.Proofs.YtnpehjgnplaabaaGreatDoor
