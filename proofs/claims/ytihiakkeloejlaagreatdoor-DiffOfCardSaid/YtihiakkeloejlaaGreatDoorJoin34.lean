/- Several texts, joined for the limit of sixty files; each one opens with its own comment. -/
import Derived.Test.YtihiakkeloejlaaGreatDoorJoin25
import Derived.Test.YtihiakkeloejlaaGreatDoorJoin20
import Derived.Test.YtihiakkeloejlaaGreatDoorJoin5
import Derived.Test.YtihiakkeloejlaaGreatDoorJoin12
import Derived.Test.YtihiakkeloejlaaGreatDoorJoin17
import Derived.Test.YtihiakkeloejlaaGreatDoorJoin8
import Derived.Test.YtihiakkeloejlaaGreatDoorChecked
import Derived.Test.YtihiakkeloejlaaGreatDoorJoin10
import Derived.RegionTactic
import Derived.BigRegion
import Derived.Test.YtihiakkeloejlaaGreatDoorJoin15
import Derived.Lib.AppendZeros
import Derived.Test.YtihiakkeloejlaaGreatDoorJoin21
import Derived.Test.YtihiakkeloejlaaGreatDoorJoin14
import Derived.Test.YtihiakkeloejlaaGreatDoorJoin19
import Derived.Test.YtihiakkeloejlaaGreatDoorJoin27
import Derived.Test.YtihiakkeloejlaaGreatDoorJoin2
import Derived.Test.YtihiakkeloejlaaGreatDoorRows
import Derived.ArgAppend
/- The reference's Same of changes; the law's back. -/
set_option linter.unusedVariables false
set_option linter.unusedSimpArgs false
namespace Go.Proofs.YtihiakkeloejlaaGreatDoor
open Go Go.RowKit
open Sw
set_option maxRecDepth 100000 in
set_option maxHeartbeats 4000000 in
theorem same41_any (w : World) (v1 v2 : Value) (l : List OfE) (h1 : SlV w 3 eCC v1 l) (h2 : SlV w 3 eCC v2 l) :
    Calls Tryz.prog 13 #[v1, v2] w fun e w' => e = .returned (.bool true) ∧ ∃ n, w' = w.drewN n := by
  obtain ⟨A1, c1, rfl, hc1, hm1, s1⟩ := h1
  obtain ⟨A2, c2, rfl, hc2, hm2, s2⟩ := h2
  unfold maxLen at hm1 hm2
  obtain ⟨N, hN⟩ : ∃ N, l.length = N := ⟨_, rfl⟩
  rw [hN] at hc1 hc2 ⊢
  have HL := Lib.hid hN; clear hN
  have HS := Lib.hid (And.intro s1 s2); clear s1 s2
  go_enter Tryz.func13, Tryz.ntmps13
  go_wp2_with fail
  go_loopw [13] (fun i wr => ∃ k q : Nat, k ≤ N ∧ i = .int .i64 k ∧ wr = w.drewN q) (fun i _ => N - (intOf i).toNat)
  case atStart => exact ⟨0, 0, Nat.zero_le _, rfl, rfl⟩
  case round =>
    obtain ⟨k, q, hk, rfl, rfl⟩ := hrel
    by_cases hlt : k < N
    · have k1 : k < l.length := by have := HL.out; omega
      obtain ⟨b1, o1, rfl, _, q1⟩ := HS.out.1 (by omega)
      obtain ⟨b2, o2, rfl, _, q2⟩ := HS.out.2 (by omega)
      have g1 := q1 k k1 0 (by omega)
      have g2 := q2 k k1 0 (by omega)
      have g3 := q1 k k1 1 (by omega)
      have g4 := q2 k k1 1 (by omega)
      have g5 := q1 k k1 2 (by omega)
      have g6 := q2 k k1 2 (by omega)
      simp [eCC] at g1 g2 g3 g4 g5 g6
      clear q1 q2
      have i0 : (0 : Int) ≤ k := by omega
      have i1 : (k : Int) < N := by omega
      generalize l[k] = x at *
      obtain ⟨p, st, cl⟩ := x
      simp only at g1 g2 g3 g4 g5 g6
      have te : (st.toList == st.toList) = true := by simp
      have te2 : (cl.toList == cl.toList) = true := by simp
      go_wp2_with fail
      go_quiet (fail)
      go_wp2_with fail
      go_roundw
      case rel => exact ⟨k + 1, q + nq, by omega, by go_num, rfl⟩
      case measure => simp [intOf]; omega
    · obtain rfl : k = N := by omega
      go_wp2_with fail
      go_ret
      exact ⟨rfl, q, rfl⟩
theorem infoC41 : (Tryz.prog.info? 41).map (fun i => (i.zero, i.size, i.bytes)) = some (some (.agg #[.int .i64 0, .string ⟨#[]⟩, .string ⟨#[]⟩]), 3, 40) := by kernel_rfl
/-- a row of the reference's rows that the call owns -/
def OwnK41 (w : World) (base : Nat) (u : Value) (l : List OfE) : Prop := w.ownsRow base 41 3 u l.length (l.flatMap eCC)
theorem OwnK41.app {w1 : World} {base g cap n : Nat} {l : List OfE} {x : OfE} (h : w1.ownsRow base 41 3 (.slice (some ⟨g, 0, none⟩) (n + 1) cap) (n + 1) (l.flatMap eCC ++ eCC x)) (hn : l.length = n) : OwnK41 w1 base (.slice (some ⟨g, 0, none⟩) (n + 1) cap) (l ++ [x]) := by
  unfold OwnK41
  rw [List.length_append, List.length_singleton, hn, List.flatMap_append]
  simpa using h
theorem OwnK41.slv {w : World} {base : Nat} {u : Value} {l : List OfE} (h : OwnK41 w base u l) : SlV w 3 eCC u l := SlV.of_own h eCC_len (by decide)
set_option maxRecDepth 100000 in
set_option maxHeartbeats 4000000 in
theorem back41_any (w : World) (v : Value) (l : List OfE) (h : SlV w 3 eCC v l) (hl : l.length ≤ 100000) :
    Calls Tryz.prog 14 #[v] w fun e w' => ∃ u, e = .returned u ∧ OwnK41 w' w.heap.size u l ∧ Below w.heap.size w w' := by
  obtain ⟨A, k, rfl, hk1, hk2, hsl⟩ := h
  unfold maxLen at hk2
  obtain ⟨n, hn⟩ : ∃ n, l.length = n := ⟨_, rfl⟩
  rw [hn] at hk1 hl ⊢
  have HN := Lib.hid hn
  have HS := Lib.hid hsl
  clear hn hsl
  go_enter Tryz.func14, Tryz.ntmps14
  go_wp2_with fail
  go_loopw [3, 8] (fun o iv wr => ∃ i : Nat, iv = .int .i64 i ∧ i ≤ n ∧ OwnK41 wr w.heap.size o (l.take i) ∧ Below w.heap.size w wr) (fun _ iv _ => n - (intOf iv).toNat)
  case atStart => exact ⟨0, rfl, Nat.zero_le _, World.ownsRow_nil _ _ _ _, Below.refl _ _⟩
  case round =>
    obtain ⟨i, rfl, hi, ho, hb⟩ := hrel
    have hbs := hb.size
    by_cases hlt : i < n
    · have hiL : i < l.length := by have := HN.out; omega
      obtain ⟨b, off, rfl, hbb, hcs⟩ := (HS.out.below hb (Nat.le_refl _)) (by omega)
      have c0 := hcs i hiL 0 (by omega)
      have c1 := hcs i hiL 1 (by omega)
      have c2 := hcs i hiL 2 (by omega)
      simp only [eCC, List.getElem?_cons_succ, List.getElem?_cons_zero, Nat.add_zero] at c0 c1 c2
      clear hcs
      have hi1 : (i : Int) < n := by omega
      have hst : l.take (i + 1) = l.take i ++ [l[i]] := by rw [List.take_succ_eq_append_getElem hiL]
      have hml : (l.take i).length = i := by rw [List.length_take]; omega
      obtain ⟨⟨q, s, c⟩, hx⟩ : ∃ x, l[i] = x := ⟨_, rfl⟩
      simp only [hx] at c0 c1 c2 hst
      clear hx
      obtain ⟨A4, k4, rfl, _, _, _⟩ := SlV_of_any ho
      have hba : Below wr.heap.size wr (wr.alloc (.cells #[.int .i64 q, .string s, .string c] 40)) := (Below.refl _ wr).alloc (Nat.le_refl _) _
      have HO := Lib.hid (own_kept ho hba)
      have HB := Lib.hid (hb.trans (hba.mono hb.size))
      have hs2 := HB.out.size
      have HST := Lib.hid (And.intro hst hml)
      clear ho hb hst hba
      generalize l.take i = F at *
      rw [hml] at HO ⊢
      clear hml
      obtain ⟨w2, hw2⟩ : ∃ w2, wr.alloc (.cells #[.int .i64 q, .string s, .string c] 40) = w2 := ⟨_, rfl⟩
      rw [hw2] at HO HB hs2
      have hB2 : Blk w2 wr.heap.size 40 #[.int .i64 q, .string s, .string c] := by rw [← hw2]; exact Blk.new _ _ _
      have z0 := hB2.cell 0
      have z1 := hB2.cell 1
      have z2 := hB2.cell 2
      simp only [List.getElem?_toArray, List.getElem?_cons_succ, List.getElem?_cons_zero] at z0 z1 z2
      clear hB2
      go_upto_region 5 with fail
      clear hw2
      go_wp2_with (at_builtin; refine wpList_app rfl _ _ 38 rfl w.heap.size 41 (.agg #[.int .i64 0, .string ⟨#[]⟩, .string ⟨#[]⟩]) 3 40 Tryz.underlying38 infoC41 rfl (by decide) _ i _ rfl (HO.out.alloc _) w2.heap.size 1 #[.int .i64 q, .string s, .string c] 41 rfl (Blk.new _ _ _) rfl (by simp [Value.oneCell']) (by omega) (by decide) (by simp; omega) _ rfl ?_; intro g cap w3 hown1 hgrow1 hat hlt1)
      have HNX := Lib.hid (And.intro (OwnK41.app (x := (q, s, c)) hown1 HST.out.2) (own_below HO.out (HB.out.alloc HB.out.size _) hgrow1 (Nat.le_refl _) (by simp; omega)))
      clear hown1 hgrow1 hat hlt1
      go_wp2_with fail
      go_roundw
      case rel => exact ⟨i + 1, by go_num, by omega, by rw [HST.out.1]; exact HNX.out.1, HNX.out.2⟩
      case measure => simp [intOf]; omega
    · obtain rfl : n = i := by omega
      have hf : l.take n = l := List.take_of_length_le (by have := HN.out; omega)
      rw [hf] at ho
      obtain ⟨A4, k4, rfl, _, _, _⟩ := SlV_of_any ho
      have HF := Lib.hid (And.intro (⟨_, rfl, ho⟩ : ∃ u, Ending.returned (.slice A4 l.length k4) = .returned u ∧ OwnK41 wr w.heap.size u l) hb)
      clear ho hb hf
      generalize l.length = z at *
      go_wp2_with fail
      go_ret
      obtain ⟨u, he, ho⟩ := HF.out.1
      exact ⟨u, he, ho, HF.out.2⟩
end Go.Proofs.YtihiakkeloejlaaGreatDoor
/- The reference's Fine, of a print: it answers. -/
set_option linter.unusedVariables false
set_option linter.unusedSimpArgs false
namespace Go.Proofs.YtihiakkeloejlaaGreatDoor
open Go Go.RowKit
open Sw
end Go.Proofs.YtihiakkeloejlaaGreatDoor
/- Two stretches of a row exchanged: plain. -/
set_option linter.unusedVariables false
set_option linter.unusedSimpArgs false
namespace Sw
/-- two stretches of i exchanged -/
def swL {β : Type} (l : List β) (a b i : Nat) : List β := l.mapIdx fun m x => if a ≤ m ∧ m < a + i then (l[b + (m - a)]?).getD x else if b ≤ m ∧ m < b + i then (l[a + (m - b)]?).getD x else x
section
variable {β : Type}
theorem swL_len (l : List β) (a b i : Nat) : (swL l a b i).length = l.length := by simp [swL]
theorem swL_get (l : List β) (a b i m : Nat) (hab : a + i ≤ b) (hb : b + i ≤ l.length) (h : m < l.length) : (swL l a b i)[m]'(by rw [swL_len]; exact h) = if h1 : a ≤ m ∧ m < a + i then l[b + (m - a)]'(by omega) else if h2 : b ≤ m ∧ m < b + i then l[a + (m - b)]'(by omega) else l[m] := by
  simp only [swL, List.getElem_mapIdx]
  split
  · rw [List.getElem?_eq_getElem (by omega)]; rfl
  · split
    · rw [List.getElem?_eq_getElem (by omega)]; rfl
    · rfl
theorem swL_zero (l : List β) (a b : Nat) : swL l a b 0 = l := by
  apply List.ext_getElem
  · exact swL_len l a b 0
  · intro m h1 h2
    simp only [swL, List.getElem_mapIdx]
    rw [if_neg (by omega), if_neg (by omega)]
theorem swL_step (l : List β) (a b i : Nat) (hab : a + i < b) (hb : b + i < l.length) :
    swL l a b (i + 1) = ((swL l a b i).set (a + i) ((swL l a b i)[b + i]'(by rw [swL_len]; exact hb))).set (b + i) ((swL l a b i)[a + i]'(by rw [swL_len]; omega)) := by
  apply List.ext_getElem
  · simp [swL_len]
  · intro m h1 h2
    have h3 : m < l.length := by rw [swL_len] at h1; exact h1
    rw [swL_get l a b (i + 1) m (by omega) (by omega) h3, List.getElem_set, List.getElem_set]
    simp only [swL_get l a b i (b + i) (by omega) (by omega) hb, swL_get l a b i (a + i) (by omega) (by omega) (by omega), swL_get l a b i m (by omega) (by omega) h3]
    by_cases e1 : b + i = m
    · subst e1
      rw [dif_neg (by omega), dif_pos (by omega), if_pos rfl, dif_neg (by omega), dif_neg (by omega)]
      congr 1; omega
    · rw [if_neg e1]
      by_cases e2 : a + i = m
      · subst e2
        rw [dif_pos (by omega), if_pos rfl, dif_neg (by omega), dif_neg (by omega)]
        congr 1; omega
      · rw [if_neg e2]
        by_cases e3 : a ≤ m ∧ m < a + i
        · rw [dif_pos (by omega), dif_pos e3]
        · rw [dif_neg (by omega), dif_neg e3]
          by_cases e4 : b ≤ m ∧ m < b + i
          · rw [dif_pos (by omega), dif_pos e4]
          · rw [dif_neg (by omega), dif_neg e4]
theorem swL_end (P X M Y Q : List β) (h : X.length = Y.length) : swL (P ++ X ++ M ++ Y ++ Q) P.length (P.length + X.length + M.length) X.length = P ++ Y ++ M ++ X ++ Q := by
  apply List.ext_getElem
  · simp only [swL_len, List.length_append]; omega
  · intro m h1 h2
    have h3 : m < (P ++ X ++ M ++ Y ++ Q).length := by rw [swL_len] at h1; exact h1
    rw [swL_get _ _ _ _ m (by omega) (by simp only [List.length_append]; omega) h3]
    simp only [List.length_append] at h3
    split
    · rename_i e
      simp only [List.getElem_append, List.length_append]
      repeat' split
      all_goals first | omega | (congr 1; omega)
    · split
      · rename_i e1 e
        simp only [List.getElem_append, List.length_append]
        repeat' split
        all_goals first | omega | (congr 1; omega)
      · rename_i e1 e2
        simp only [List.getElem_append, List.length_append]
        repeat' split
        all_goals first | omega | (congr 1; omega) | rfl
end
end Sw

/- The parts of slices.SortStableFunc at rows of api.Mark: two stretches exchanged; a stretch turned about. -/
set_option linter.unusedVariables false
set_option linter.unusedSimpArgs false
namespace Go.Proofs.YtihiakkeloejlaaGreatDoor
open Go Go.RowKit
open Sw
def eCMK (e : { s : ByteArray // s.size ≤ 90000 } × Pr) : List Value := [.string e.1.1, .int .i64 e.2.kind, .int .i64 e.2.mode, .int .u32 e.2.time, .int .i64 e.2.size, .int .u32 e.2.sum]
theorem eCMK_len (e : { s : ByteArray // s.size ≤ 90000 } × Pr) : (eCMK e).length = 6 := rfl
end Go.Proofs.YtihiakkeloejlaaGreatDoor
/- slices.Concat of two rows of marks. -/
set_option linter.unusedVariables false
set_option linter.unusedSimpArgs false
namespace Go.Proofs.YtihiakkeloejlaaGreatDoor
open Go Go.RowKit
open Sw
/-- a mark's cells -/
def eCM (m : ByteArray × Pr) : List Value := [.string m.1, .int .i64 m.2.kind, .int .i64 m.2.mode, .int .u32 m.2.time, .int .i64 m.2.size, .int .u32 m.2.sum]
theorem eCM_len (m : ByteArray × Pr) : (eCM m).length = 6 := rfl
theorem eCM_one (m : ByteArray × Pr) : ∀ u ∈ eCM m, u.oneCell' = true := fun u hu => by
  simp only [eCM, List.mem_cons, List.not_mem_nil, or_false] at hu
  rcases hu with rfl | rfl | rfl | rfl | rfl | rfl <;> rfl
theorem infoMk : (Tryz.prog.info? 107).map (fun i => (i.zero, i.size, i.bytes)) = some (some (.agg #[.string ⟨#[]⟩, .int .i64 0, .int .i64 0, .int .u32 0, .int .i64 0, .int .u32 0]), 6, 56) := by kernel_rfl
end Go.Proofs.YtihiakkeloejlaaGreatDoor
/- archive.Find. -/
set_option linter.unusedVariables false
set_option linter.unusedSimpArgs false
namespace Sw
open Go
theorem toList_inj {x y : ByteArray} (h : x.toList = y.toList) : x = y := by
  rw [ByteArray.toList_eq, ByteArray.toList_eq] at h
  apply ByteArray.ext
  exact Array.ext' h
theorem str_beq (u v : ByteArray) : (u.toList == v.toList) = decide (u = v) := by
  by_cases h : u = v
  · subst h; simp
  · have : ¬ u.toList = v.toList := fun e => h (toList_inj e)
    simp [h, this]
theorem findM_at : ∀ (L : List MkE) (p : ByteArray) (i : Nat) (h : i < L.length), (∀ j (hj : j < L.length), j < i → ¬ L[j].1 = p) → L[i].1 = p → findM L p = some L[i].2
  | [], p, i, h, _, _ => absurd h (by simp)
  | m :: L, p, 0, h, _, he => by rw [findM_cons, if_pos (by simpa using he)]; rfl
  | m :: L, p, i + 1, h, hn, he => by
    have h0 := hn 0 (by simp) (by omega)
    rw [findM_cons, if_neg (by simpa using h0)]
    have := findM_at L p i (by simpa using h) (fun j hj hji => by have := hn (j + 1) (by simpa using hj) (by omega); simpa using this) (by simpa using he)
    rw [this]
    simp
end Sw
namespace Go.Proofs.YtihiakkeloejlaaGreatDoor
open Go Go.RowKit
open Sw
end Go.Proofs.YtihiakkeloejlaaGreatDoor
/- The reference's Get of marks. -/
set_option linter.unusedVariables false
set_option linter.unusedSimpArgs false
namespace Go.Proofs.YtihiakkeloejlaaGreatDoor
open Go Go.RowKit
open Sw
end Go.Proofs.YtihiakkeloejlaaGreatDoor
/- The reference's rises of marks: it answers. -/
set_option linter.unusedVariables false
set_option linter.unusedSimpArgs false
namespace Go.Proofs.YtihiakkeloejlaaGreatDoor
open Go Go.RowKit
open Sw
/-- a mark that came in -/
def MkInS (m : MkE) : Prop := m.1.size ≤ 90000 ∧ 0 ≤ m.2.time ∧ m.2.time < 4294967296
end Go.Proofs.YtihiakkeloejlaaGreatDoor
/- The reference's Right of a Base: it answers. -/
set_option linter.unusedVariables false
set_option linter.unusedSimpArgs false
namespace Go.Proofs.YtihiakkeloejlaaGreatDoor
open Go Go.RowKit
open Sw
end Go.Proofs.YtihiakkeloejlaaGreatDoor
/- Law 29's Light at no marks. -/
set_option linter.unusedVariables false
set_option linter.unusedSimpArgs false
namespace Go.Proofs.YtihiakkeloejlaaGreatDoor
open Go Go.RowKit
open Sw
end Go.Proofs.YtihiakkeloejlaaGreatDoor
/- Law 26's Light, and law 29's, of any Base. -/
set_option linter.unusedVariables false
set_option linter.unusedSimpArgs false
namespace Go.Proofs.YtihiakkeloejlaaGreatDoor
open Go Go.RowKit
open Sw
theorem own_emptyB (w : World) (base : Nat) (e : TypeId) (size : Nat) (hb : base ≤ w.heap.size) : (w.alloc (.cells #[] e)).ownsRow base e size (.slice (some ⟨w.heap.size, 0, none⟩) 0 0) 0 [] :=
  own_mk hb (Blk.new w e #[]) (Nat.le_refl _) (by simp [maxLen]) (by simp) (by simp)
/-- what Light answers of a Base -/
def LightAns (l1 l2 : List MkE) (e : Ending) : Prop := ∃ R : Bool, e = .returned (.bool R) ∧ (R = true → l1.length ≤ 30 ∧ l2.length ≤ 30 ∧ ∀ m ∈ l1 ++ l2, m.1.size ≤ 150)
theorem LightAns.no {l1 l2 : List MkE} : LightAns l1 l2 (.returned (.bool false)) := ⟨false, rfl, fun h => (by cases h)⟩
theorem LightAns.yes {l1 l2 : List MkE} (h : l1.length ≤ 30 ∧ l2.length ≤ 30 ∧ ∀ m ∈ l1 ++ l2, m.1.size ≤ 150) : LightAns l1 l2 (.returned (.bool true)) := ⟨true, rfl, fun _ => h⟩
end Go.Proofs.YtihiakkeloejlaaGreatDoor
/- The contract of swingleref01.Same: are two slices of texts alike? -/
set_option linter.unusedVariables false
set_option linter.unusedSimpArgs false
namespace Go.Proofs.YtihiakkeloejlaaGreatDoor
open Go.RowKit
open Sw
/-- a text as it lies -/
def sE (t : ByteArray) : List Value := [.string t]
theorem beqT (s t : ByteArray) : (s.toList == t.toList) = decide (s = t) := by
  rw [ByteArray.toList_eq, ByteArray.toList_eq]
  by_cases h : s = t
  · subst h; simp
  · rw [decide_eq_false h, beq_eq_false_iff_ne]
    intro e
    apply h
    cases s; cases t
    congr 1
    exact Array.toList_inj.1 e
end Go.Proofs.YtihiakkeloejlaaGreatDoor
/- The reference's Put of paths in order. -/
set_option linter.unusedVariables false
set_option linter.unusedSimpArgs false
namespace Sw
open Go
theorem ordS_lt {p q : ByteArray} : ordS p q < 0 ↔ ordS p q = -1 := by
  rcases ordS_three p q with h | h | h <;> omega
/-- a path put where it stands -/
theorem ins_rise {ps : List ByteArray} {p : ByteArray} {j : Nat} (h : Rise ps) (hj : j ≤ ps.length) (h1 : ∀ i (hi : i < ps.length), i < j → ordS ps[i] p = -1) (h2 : ∀ (h : j < ps.length), ¬ ordS ps[j] p = -1 ∧ ¬ ps[j] = p) : Rise (ps.take j ++ p :: ps.drop j) := by
  unfold Rise at *
  have hcut := h
  rw [← List.take_append_drop j ps, List.pairwise_append] at hcut
  have hlo : ∀ a ∈ ps.take j, ordS a p < 0 := fun a ha => by
    obtain ⟨i, hi, rfl⟩ := List.getElem_of_mem ha
    rw [List.length_take] at hi
    rw [List.getElem_take, ordS_lt]
    exact h1 i (by omega) (by omega)
  have hhi : ∀ b ∈ ps.drop j, ordS p b < 0 := fun b hb => by
    obtain ⟨i, hi, rfl⟩ := List.getElem_of_mem hb
    rw [List.length_drop] at hi
    rw [List.getElem_drop]
    have hjl : j < ps.length := by omega
    have h3 := h2 hjl
    have h4 : ordS p ps[j] < 0 := by
      have h5 := ordS_neg ps[j] p
      rcases ordS_three ps[j] p with h6 | h6 | h6
      · exact absurd h6 h3.1
      · exact absurd (ordS_zero h6) h3.2
      · omega
    by_cases hi0 : i = 0
    · subst hi0; exact h4
    · have h7 := List.pairwise_iff_getElem.1 h j (j + i) hjl (by omega) (by omega)
      exact ordS_ord.trans _ _ _ h4 h7
  rw [List.pairwise_append, List.pairwise_cons]
  refine ⟨hcut.1, ⟨hhi, hcut.2.1⟩, fun a ha b hb => ?_⟩
  rcases List.mem_cons.1 hb with rfl | hb
  · exact hlo a ha
  · exact hcut.2.2 a ha b hb
theorem ins_mem (ps : List ByteArray) (p : ByteArray) (j : Nat) (q : ByteArray) : q ∈ ps.take j ++ p :: ps.drop j ↔ q = p ∨ q ∈ ps := by
  rw [List.mem_append, List.mem_cons]
  constructor
  · rintro (h | h | h)
    · exact .inr (List.mem_of_mem_take h)
    · exact .inl h
    · exact .inr (List.mem_of_mem_drop h)
  · rintro (h | h)
    · exact .inr (.inl h)
    · rw [← List.take_append_drop j ps, List.mem_append] at h
      exact h.elim .inl (fun h => .inr (.inr h))
/-- what Put leaves -/
def PutP (ps : List ByteArray) (p : ByteArray) (qs : List ByteArray) : Prop := (Rise ps → Rise qs) ∧ (∀ q, q ∈ qs ↔ q = p ∨ q ∈ ps) ∧ qs.length ≤ ps.length + 1 ∧ 0 < qs.length
open Go.RowKit in
/-- 'append(l[:k:k], x)': no room: a new row -/
theorem wpList_app_fullP {P : Program} {w : World} {ops : Array Oper} {rest : List Oper} {o : Oper} {a : Act} {Q : Exit → Act → World → Prop} (hgd : o.guard = none) (s x : Operand) (t : TypeId)
    (ho : o.op = .call { callee := .builtin .append, args := #[s, x], argTypes := #[t, t] })
    (e : TypeId) (z : Value) (size bytes : Nat) (ht : P.underlying t = some (.slice e)) (hi : (P.info? e).map (fun i => (i.zero, i.size, i.bytes)) = some (some z, size, bytes)) (hzs : z.cells.size = size) (hsz : 0 < size)
    (ao : Option Addr) (n : Nat) (olds : List Value) (hs : a.eval s = .slice ao n n) (hnone : ao = none → n = 0) (hlo : olds.length = n * size) (holds : ∀ b, ao = some b → ∀ j u, olds[j]? = some u → w.cell? (b.add j) = some u)
    (B : Nat) (c : Nat) (news : Array Value) (te : TypeId) (hx : a.eval x = .slice (some ⟨B, 0, none⟩) 1 c) (hB : Blk w B te news) (hl : news.size = size) (h1 : ∀ u ∈ news.toList, u.oneCell' = true)
    (hn : n + 1 ≤ 1000000) (hby : bytes ≤ 1000000)
    (h : ∀ v' w', w'.ownsRow w.heap.size e size v' (n + 1) (olds ++ news.toList) → w.grownBy w' none → wpList P ops Q rest (a.put o.dst v') w') :
    wpList P ops Q (o :: rest) a w := by
  obtain ⟨i, hi, hz, hs2, hb⟩ := info_parts hi
  refine wpList_append_grows w hgd s x t ho e i z size bytes ht hi hz hs2 hb hzs hsz ao n n olds hs (fun q => ⟨hnone q, hnone q⟩) hlo holds ⟨B, 0, none⟩ 1 c news.toList hx (by simpa using hl) ?_ h1 (Nat.lt_succ_self _) (by unfold maxLen; omega) ?_ h
  · exact World.news_of_block hB
  · calc (n + 1) * bytes ≤ 1000000 * 1000000 := Nat.mul_le_mul hn hby
      _ ≤ 140737488355328 := by decide
end Sw
namespace Go.Proofs.YtihiakkeloejlaaGreatDoor
open Go Go.RowKit
open Sw
theorem infoStP : (Tryz.prog.info? 9).map (fun i => (i.zero, i.size, i.bytes)) = some (some (.string ⟨#[]⟩), 1, 16) := by kernel_rfl
theorem sE_len (s : ByteArray) : (sE s).length = 1 := rfl
theorem sE_one (s : ByteArray) : ∀ u ∈ sE s, u.oneCell' = true := fun u hu => by
  simp only [sE, List.mem_cons, List.not_mem_nil, or_false] at hu
  subst hu; rfl
theorem grown_none_belowP {A B : World} (h : A.grownBy B none) : Below A.heap.size A B := ⟨h.os, h.tape, h.output, h.size, fun k hk => h.block k hk (by simp)⟩
/-- paths in a row of one's own -/
def OwnS (w : World) (base : Nat) (v : Value) (ps : List ByteArray) : Prop := w.ownsRow base 9 1 v ps.length (ps.flatMap sE)
theorem OwnS.below {w w' : World} {base : Nat} {v : Value} {ps : List ByteArray} (h : OwnS w base v ps) (hb : Below w.heap.size w w') : OwnS w' base v ps := own_kept h hb
theorem OwnS.slv {w : World} {base : Nat} {v : Value} {ps : List ByteArray} (h : OwnS w base v ps) : SlV w 1 sE v ps := SlV.of_own h sE_len (by decide)
/-- what Put answers -/
def PutAns (w' : World) (B : Nat) (ps : List ByteArray) (p : ByteArray) (e : Ending) : Prop := ∃ u qs, e = .returned u ∧ OwnS w' B u qs ∧ PutP ps p qs
theorem PutAns.put {w' : World} {B : Nat} {ps qs : List ByteArray} {p : ByteArray} {u : Value} (h1 : OwnS w' B u qs) (h2 : PutP ps p qs) : PutAns w' B ps p (.returned u) := ⟨u, qs, rfl, h1, h2⟩
theorem ownS_drop {w : World} {base n c g : Nat} {L : List ByteArray} (h : w.ownsRow base 9 1 (.slice (some ⟨g, 0, none⟩) n c) n (L.flatMap sE)) (hn : L.length = n) (j : Nat) (hj : j ≤ n) (T : Addr) (hT : j < c → T = ⟨g, 0 + j * 1, none⟩) :
    SlV w 1 sE (.slice (some T) (n - j) (c - j)) (L.drop j) := by
  subst hn
  exact ((Lies.of_own h sE_len (by decide)).drop sE_len j hj T hT).slv sE_len
theorem ownS_olds {w : World} {base n c g : Nat} {L : List ByteArray} (h : w.ownsRow base 9 1 (.slice (some ⟨g, 0, none⟩) n c) n (L.flatMap sE)) (hn : L.length = n) (k : Nat) (hk : k ≤ n) :
    ((L.take k).flatMap sE).length = k * 1 ∧ ∀ b, (some (⟨g, 0, none⟩ : Addr)) = some b → ∀ j u, ((L.take k).flatMap sE)[j]? = some u → w.cell? (b.add j) = some u := by
  subst hn
  have hlen : ((L.take k).flatMap sE).length = k * 1 := by rw [flat_len sE_len, List.length_take]; omega
  refine ⟨hlen, ?_⟩
  rintro b hb j u hj
  obtain rfl := Option.some.inj hb
  have hjl := (List.getElem?_eq_some_iff.1 hj).1
  rw [hlen] at hjl
  obtain ⟨g', cap, cur, hA, hbg, hB, hnc, hcm, hcs, htk⟩ := own_form h (by omega)
  obtain rfl : g = g' := by injection hA with e1 e2 e3; exact congrArg Addr.block (Option.some.inj e1)
  rw [flat_take sE_len, List.getElem?_take, if_pos hjl, ← htk, List.getElem?_take, if_pos (by omega)] at hj
  rw [add_mk, hB.cell, Nat.zero_add, ← Array.getElem?_toList, hj]
set_option maxRecDepth 100000 in
set_option maxHeartbeats 8000000 in
theorem refPutP_any (w : World) (B : Nat) (v : Value) (ps : List ByteArray) (p : ByteArray) (h : OwnS w B v ps) (hB : B ≤ w.heap.size) (hn : ps.length ≤ 1000) (hz : ∀ q ∈ ps, q.size ≤ 90000) (hp : p.size ≤ 90000) (hnil : ps = [] → v = .slice none 0 0) :
    Calls Tryz.prog 56 #[v, .string p] w fun e w' => PutAns w' B ps p e ∧ Below w.heap.size w w' := by
  obtain ⟨n, hl⟩ : ∃ n, ps.length = n := ⟨_, rfl⟩
  have hs0 := h.slv
  unfold OwnS at h
  rw [hl] at h hn
  obtain ⟨A, c, rfl, hnc, hcm, -⟩ := SlV_of_any h
  unfold maxLen at hcm
  have HO := Lib.hid (And.intro h (And.intro hs0 hz))
  have HL := Lib.hid hl
  clear hs0 hz hl
  by_cases h0 : n = 0
  · subst h0
    obtain rfl : ps = [] := List.length_eq_zero_iff.1 HL.out
    obtain ⟨rfl, rfl⟩ : A = none ∧ c = 0 := by have := hnil rfl; injection this with e1 e2 e3; exact ⟨e1, e3⟩
    clear h HO hnil
    go_enter Tryz.func56, Tryz.ntmps56
    go_wp2_with fail
    go_loopw [5] (fun kv wr => kv = .int .i64 0 ∧ wr = w) (fun kv _ => 0)
    case atStart => exact ⟨rfl, rfl⟩
    case round =>
      obtain ⟨rfl, hw⟩ := hrel
      rw [hw]
      clear hw
      go_upto_region 7 with (at_builtin; go_loud (refine wpList_app_slv rfl _ _ 71 rfl w.heap.size 9 (.string ⟨#[]⟩) 1 16 Tryz.underlying71 infoStP rfl (by decide) _ 0 _ rfl (own_emptyB w w.heap.size _ 1 (Nat.le_refl _)) sE sE_len sE_one _ [] rfl ⟨none, 0, rfl, Nat.le_refl _, by simp [maxLen], SlOf.nil _ _ _ _⟩ (by simp) (by decide) (by simp) ?_; intro v2 w2 ho2 hg2; obtain ⟨A2, c2, rfl, -, -, -⟩ := SlV_of_any ho2))
      have hb2 : Below w.heap.size w w2 := ((Below.refl _ w).alloc (Nat.le_refl _) _).grown hg2 (by simp) (fun q hq => by cases hq; exact Nat.le_refl _)
      have hba : Below w2.heap.size w2 (w2.alloc (.cells #[.string p] 9)) := (Below.refl _ w2).alloc (Nat.le_refl _) _
      have H2 := Lib.hid (And.intro hb2 ho2)
      have hs2 := hb2.size
      clear hb2 ho2 hg2
      have hsl2 : SlV w2 1 sE (.slice A2 0 c2) [] := SlV.of_own (l := []) H2.out.2 sE_len (by decide)
      have HSL := Lib.hid hsl2; clear hsl2
      have HBA := Lib.hid hba; clear hba
      go_wp2_with (first | (at_builtin; refine wpList_app_fullP rfl _ _ 71 rfl 9 (.string ⟨#[]⟩) 1 16 Tryz.underlying71 infoStP rfl (by decide) none 0 [] rfl (fun _ => rfl) rfl (fun b h => by cases h) w2.heap.size 1 #[.string p] 9 rfl (Blk.new _ _ _) rfl (by simp [Value.oneCell']) (by omega) (by decide) ?_; intro v4 w4 ho4 hg4; have hb4 : Below w2.heap.size w2 w4 := (HBA.out.trans ((grown_none_belowP hg4).mono HBA.out.size)); have hsl4 := HSL.out.below hb4 (Nat.le_refl _); have hz4 := hb4.size; obtain ⟨A4, c4, rfl, -, -, -⟩ := SlV_of_any ho4; have ho4' := own_wide ho4 (show w2.heap.size ≤ _ by simp); have H4 := Lib.hid (And.intro ho4' (And.intro hb4 hsl4)); clear ho4 hg4 hb4 hsl4 ho4') | (at_builtin; refine wpList_app_slv rfl _ _ 71 rfl w2.heap.size 9 (.string ⟨#[]⟩) 1 16 Tryz.underlying71 infoStP rfl (by decide) (.slice A4 (0 + 1) c4) (0 + 1) _ rfl H4.out.1 sE sE_len sE_one _ [] rfl H4.out.2.2 (by simp) (by decide) hz4 ?_; intro v5 w5 ho5 hg5; obtain ⟨A5, c5, rfl, -, -, -⟩ := SlV_of_any ho5))
      have hb5 : Below w2.heap.size w4 w5 := (Below.refl _ w4).grown hg5 hz4 (fun q hq => (H4.out.1.lt q hq).1)
      have hbF := H2.out.1.trans ((H4.out.2.1.trans (hb5.mono (Nat.le_refl _))).mono H2.out.1.size)
      have HF := Lib.hid (And.intro (own_wide ho5 (show w.heap.size ≤ w2.heap.size from H2.out.1.size)) hbF)
      clear ho5 hg5 hb5 hbF
      go_wp2_with fail
      go_ret
      refine ⟨PutAns.put (qs := [p]) ?_ ⟨fun _ => List.pairwise_singleton _ _, fun q => by simp, by simp, by simp⟩, HF.out.2⟩
      have h9 := own_wide HF.out.1 hB
      unfold OwnS
      simpa [sE] using h9
  · have hn1 : 0 < n := Nat.pos_of_ne_zero h0
    obtain ⟨g, rfl, hgl⟩ : ∃ g, A = some ⟨g, 0, none⟩ ∧ g < w.heap.size := by
      obtain ⟨g, cap, cur, hA, hbg, hB, _⟩ := own_form HO.out.1 hn1
      injection hA with e1 e2 e3
      exact ⟨g, e1, hB.lt⟩
    clear h hnil
    have hn1000 : (n : Int) ≤ 1000 := by omega
    have hnc0 : (n : Int) ≤ c := by omega
    go_enter Tryz.func56, Tryz.ntmps56
    go_wp2_with fail
    go_loopw [5] (fun kv wr => ∃ j : Nat, j ≤ n ∧ kv = .int .i64 j ∧ (∀ i (hi : i < ps.length), i < j → ordS ps[i] p = -1) ∧ Below w.heap.size w wr) (fun kv _ => n - (intOf kv).toNat)
    case atStart => exact ⟨0, Nat.zero_le _, rfl, fun i _ h => absurd h (Nat.not_lt_zero _), Below.refl _ _⟩
    case round =>
      obtain ⟨j, hj, rfl, hall, hb⟩ := hrel
      have HA := Lib.hid hall; clear hall
      have hj0 : (0 : Int) ≤ j := by omega
      have hjc : (j : Int) ≤ c := by omega
      by_cases hlt : j < n
      · have hjl : j < ps.length := by have := HL.out; omega
        have hji : (j : Int) < n := by omega
        have hsl := HO.out.2.1.below hb (Nat.le_refl _)
        obtain ⟨A', c', hA, -, -, hso⟩ := hsl
        obtain ⟨rfl, -, rfl⟩ : some (⟨g, 0, none⟩ : Addr) = A' ∧ n = ps.length ∧ c = c' := by simpa using hA
        obtain ⟨b, off, hgb, hbb, hcs⟩ := hso (by omega)
        obtain ⟨rfl, rfl⟩ : g = b ∧ 0 = off := by have := Option.some.inj hgb; exact ⟨congrArg Addr.block this, congrArg Addr.off this⟩
        have c0 := hcs j hjl 0 (by omega)
        simp only [sE, List.getElem?_cons_zero, Nat.add_zero, Nat.zero_add, Nat.mul_one] at c0
        have hqz := HO.out.2.2 _ (List.getElem_mem hjl)
        have HBF := Lib.hid (refBefore_any wr ps[j] p (by omega) (by omega))
        have HE := Lib.hid (fun (h : ordS ps[j] p = -1) i (hi : i < ps.length) (hij : i < j + 1) => (by
          by_cases h2 : i < j
          · exact HA.out i hi h2
          · obtain rfl : i = j := by omega
            exact h : ordS ps[i] p = -1))
        obtain ⟨bb, hbb2⟩ : ∃ bb : Bool, decide (ordS ps[j] p = -1) = bb := ⟨_, rfl⟩
        rw [hbb2] at HBF
        have HBB := Lib.hid hbb2; clear hbb2
        have hqm := List.getElem_mem hjl
        obtain ⟨q, hq⟩ : ∃ q, ps[j] = q := ⟨_, rfl⟩
        rw [hq] at c0 HBF HBB HE hqm
        have HQ := Lib.hid hqm; clear hqm
        have HQE := Lib.hid hq
        clear hcs hso hA hgb hq hqz hbb
        go_wp2_with fail
        refine HBF.out.mono ?_
        rintro e w1 ⟨rfl, hb1⟩
        have c1 : w1.cell? ⟨g, j, none⟩ = some (.string q) := (hb1.cell (p := ⟨g, j, none⟩) (by have := hb.size; show g < _; omega)).trans c0
        have H1 := Lib.hid (hb.trans (hb1.mono hb.size)); clear hb hb1 c0 HBF
        cases bb with
        | true =>
          have HE2 := Lib.hid (HE.out (by simpa using HBB.out)); clear HE
          go_wp2_with fail
          go_roundw
          case rel => exact ⟨j + 1, by omega, by go_num, HE2.out, H1.out⟩
          case measure => simp [intOf]; omega
        | false =>
          clear HE
          by_cases hqp : q = p
          · have te : (q.toList == p.toList) = true := by rw [str_beq]; simpa using hqp
            have HQP := Lib.hid hqp; clear hqp
            go_wp2_with fail
            go_ret
            refine ⟨PutAns.put (qs := ps) ?_ ⟨id, fun x => ⟨.inr, fun h' => h'.elim (fun h' => by rw [h', ← HQP.out]; exact HQ.out) id⟩, by omega, by rw [HL.out]; exact hn1⟩, H1.out⟩
            have h9 := own_kept HO.out.1 H1.out
            unfold OwnS
            rw [HL.out]
            exact h9
          · have te : (q.toList == p.toList) = false := by rw [str_beq]; simpa using hqp
            have HE := Lib.hid (show ∀ (h : j < ps.length), ¬ ordS ps[j] p = -1 ∧ ¬ ps[j] = p from fun h => by
              have := HQE.out
              rw [this]
              exact ⟨by simpa using HBB.out, hqp⟩)
            clear hqp
            obtain ⟨T, hT, hTa, hTb, _⟩ := slice_from (P := Tryz.prog) 71 9 1 Tryz.underlying71 (by kernel_rfl) Tryz.sizeOf9 g 0 n c j (j : Int) rfl hj
            have ho1 := own_kept HO.out.1 H1.out
            have hSL := fun (o : Obj) => ownS_drop (own_kept ho1 ((Below.refl _ w1).alloc (Nat.le_refl _) o)) HL.out j hj T hTa
            have hll : (ps.drop j).length = n - j := by rw [List.length_drop, HL.out]
            obtain ⟨R, hR⟩ : ∃ R, ps.drop j = R := ⟨_, rfl⟩
            rw [hR] at hSL hll
            have HRR := Lib.hid hR; clear hR
            have HSL := Lib.hid hSL
            have HLL := Lib.hid hll
            have HO1 := Lib.hid ho1
            clear hSL hll ho1 hTa hTb
            go_upto_region 7 with (at_builtin; go_loud (refine wpList_app_slv rfl _ _ 71 rfl w1.heap.size 9 (.string ⟨#[]⟩) 1 16 Tryz.underlying71 infoStP rfl (by decide) _ 0 _ rfl (own_emptyB w1 w1.heap.size _ 1 (Nat.le_refl _)) sE sE_len sE_one _ R rfl (HSL.out _) (by rw [HLL.out]; omega) (by decide) (by simp) ?_; intro v2 w2 ho2 hg2; rw [HLL.out, Nat.zero_add] at ho2; obtain ⟨A2, c2, rfl, -, -, -⟩ := SlV_of_any ho2))
            have hb2 : Below w1.heap.size w1 w2 := ((Below.refl _ w1).alloc (Nat.le_refl _) _).grown hg2 (by simp) (fun q hq => by cases hq; exact Nat.le_refl _)
            have hs2 := H1.out.size
            have hs3 := hb2.size
            have hba : Below w2.heap.size w2 (w2.alloc (.cells #[.string p] 9)) := (Below.refl _ w2).alloc (Nat.le_refl _) _
            have hbw := H1.out.trans (hb2.mono hs2)
            have ho2s : w2.ownsRow B 9 1 (.slice (some ⟨g, 0, none⟩) n c) n (ps.flatMap sE) := own_kept HO1.out hb2
            have hsl2 : SlV w2 1 sE (.slice A2 (n - j) c2) R := SlV.of_own (by rw [List.nil_append] at ho2; exact ho2) sE_len (by decide)
            have HOL := Lib.hid (ownS_olds (own_kept ho2s hba) HL.out j hj)
            have H2 := Lib.hid (And.intro hbw (And.intro hba hsl2))
            clear hb2 hg2 ho2 hba hbw ho2s hsl2 HSL HO1
            go_wp2_with (first | (at_builtin; refine wpList_app_fullP rfl _ _ 71 rfl 9 (.string ⟨#[]⟩) 1 16 Tryz.underlying71 infoStP rfl (by decide) _ j _ rfl (fun h => by cases h) HOL.out.1 HOL.out.2 w2.heap.size 1 #[.string p] 9 rfl (Blk.new _ _ _) rfl (by simp [Value.oneCell']) (by omega) (by decide) ?_; intro v4 w4 ho4 hg4; have hb4 : Below w2.heap.size w2 w4 := (H2.out.2.1.trans ((grown_none_belowP hg4).mono H2.out.2.1.size)); have hsl4 := H2.out.2.2.below hb4 (Nat.le_refl _); have hz4 := hb4.size; obtain ⟨A4, c4, rfl, -, -, -⟩ := SlV_of_any ho4; have ho4' := own_wide ho4 (show w2.heap.size ≤ _ by simp); have H4 := Lib.hid (And.intro ho4' (And.intro hb4 hsl4)); clear ho4 hg4 hb4 hsl4 ho4') | (at_builtin; refine wpList_app_slv rfl _ _ 71 rfl w2.heap.size 9 (.string ⟨#[]⟩) 1 16 Tryz.underlying71 infoStP rfl (by decide) (.slice A4 (j + 1) c4) (j + 1) _ rfl H4.out.1 sE sE_len sE_one _ R rfl H4.out.2.2 (by rw [HLL.out]; omega) (by decide) hz4 ?_; intro v5 w5 ho5 hg5; obtain ⟨A5, c5, rfl, -, -, -⟩ := SlV_of_any ho5))
            have hb5 : Below w2.heap.size w4 w5 := (Below.refl _ w4).grown hg5 hz4 (fun q hq => (H4.out.1.lt q hq).1)
            have hbF := H2.out.1.trans ((H4.out.2.1.trans (hb5.mono (Nat.le_refl _))).mono H2.out.1.size)
            have HF := Lib.hid (And.intro (own_wide ho5 (show B ≤ w2.heap.size by omega)) hbF)
            clear ho5 hg5 hb5 hbF
            go_wp2_with fail
            go_ret
            have hlen : (ps.take j ++ p :: R).length = j + 1 + R.length := by rw [List.length_append, List.length_take, List.length_cons, HL.out]; omega
            refine ⟨PutAns.put (qs := ps.take j ++ p :: R) ?_ ⟨fun h => by rw [← HRR.out]; exact ins_rise h (by rw [HL.out]; exact hj) HA.out HE.out, fun x => by rw [← HRR.out]; exact ins_mem ps p j x, by rw [hlen, HLL.out, HL.out]; omega, by rw [hlen]; omega⟩, HF.out.2⟩
            unfold OwnS
            rw [hlen]
            have h9 := HF.out.1
            simpa [sE] using h9
      · have hlt' : ¬ (j : Int) < n := by omega
        have HE := Lib.hid (show ∀ (h : j < ps.length), ¬ ordS ps[j] p = -1 ∧ ¬ ps[j] = p from fun h => by have := HL.out; omega)
        have H1 := Lib.hid hb; clear hb
        generalize wr = w1 at *
        obtain ⟨T, hT, hTa, hTb, _⟩ := slice_from (P := Tryz.prog) 71 9 1 Tryz.underlying71 (by kernel_rfl) Tryz.sizeOf9 g 0 n c j (j : Int) rfl hj
        have ho1 := own_kept HO.out.1 H1.out
        have hSL := fun (o : Obj) => ownS_drop (own_kept ho1 ((Below.refl _ w1).alloc (Nat.le_refl _) o)) HL.out j hj T hTa
        have hll : (ps.drop j).length = n - j := by rw [List.length_drop, HL.out]
        obtain ⟨R, hR⟩ : ∃ R, ps.drop j = R := ⟨_, rfl⟩
        rw [hR] at hSL hll
        have HRR := Lib.hid hR; clear hR
        have HSL := Lib.hid hSL
        have HLL := Lib.hid hll
        have HO1 := Lib.hid ho1
        clear hSL hll ho1 hTa hTb
        go_upto_region 7 with (at_builtin; go_loud (refine wpList_app_slv rfl _ _ 71 rfl w1.heap.size 9 (.string ⟨#[]⟩) 1 16 Tryz.underlying71 infoStP rfl (by decide) _ 0 _ rfl (own_emptyB w1 w1.heap.size _ 1 (Nat.le_refl _)) sE sE_len sE_one _ R rfl (HSL.out _) (by rw [HLL.out]; omega) (by decide) (by simp) ?_; intro v2 w2 ho2 hg2; rw [HLL.out, Nat.zero_add] at ho2; obtain ⟨A2, c2, rfl, -, -, -⟩ := SlV_of_any ho2))
        have hb2 : Below w1.heap.size w1 w2 := ((Below.refl _ w1).alloc (Nat.le_refl _) _).grown hg2 (by simp) (fun q hq => by cases hq; exact Nat.le_refl _)
        have hs2 := H1.out.size
        have hs3 := hb2.size
        have hba : Below w2.heap.size w2 (w2.alloc (.cells #[.string p] 9)) := (Below.refl _ w2).alloc (Nat.le_refl _) _
        have hbw := H1.out.trans (hb2.mono hs2)
        have ho2s : w2.ownsRow B 9 1 (.slice (some ⟨g, 0, none⟩) n c) n (ps.flatMap sE) := own_kept HO1.out hb2
        have hsl2 : SlV w2 1 sE (.slice A2 (n - j) c2) R := SlV.of_own (by rw [List.nil_append] at ho2; exact ho2) sE_len (by decide)
        have HOL := Lib.hid (ownS_olds (own_kept ho2s hba) HL.out j hj)
        have H2 := Lib.hid (And.intro hbw (And.intro hba hsl2))
        clear hb2 hg2 ho2 hba hbw ho2s hsl2 HSL HO1
        go_wp2_with (first | (at_builtin; refine wpList_app_fullP rfl _ _ 71 rfl 9 (.string ⟨#[]⟩) 1 16 Tryz.underlying71 infoStP rfl (by decide) _ j _ rfl (fun h => by cases h) HOL.out.1 HOL.out.2 w2.heap.size 1 #[.string p] 9 rfl (Blk.new _ _ _) rfl (by simp [Value.oneCell']) (by omega) (by decide) ?_; intro v4 w4 ho4 hg4; have hb4 : Below w2.heap.size w2 w4 := (H2.out.2.1.trans ((grown_none_belowP hg4).mono H2.out.2.1.size)); have hsl4 := H2.out.2.2.below hb4 (Nat.le_refl _); have hz4 := hb4.size; obtain ⟨A4, c4, rfl, -, -, -⟩ := SlV_of_any ho4; have ho4' := own_wide ho4 (show w2.heap.size ≤ _ by simp); have H4 := Lib.hid (And.intro ho4' (And.intro hb4 hsl4)); clear ho4 hg4 hb4 hsl4 ho4') | (at_builtin; refine wpList_app_slv rfl _ _ 71 rfl w2.heap.size 9 (.string ⟨#[]⟩) 1 16 Tryz.underlying71 infoStP rfl (by decide) (.slice A4 (j + 1) c4) (j + 1) _ rfl H4.out.1 sE sE_len sE_one _ R rfl H4.out.2.2 (by rw [HLL.out]; omega) (by decide) hz4 ?_; intro v5 w5 ho5 hg5; obtain ⟨A5, c5, rfl, -, -, -⟩ := SlV_of_any ho5))
        have hb5 : Below w2.heap.size w4 w5 := (Below.refl _ w4).grown hg5 hz4 (fun q hq => (H4.out.1.lt q hq).1)
        have hbF := H2.out.1.trans ((H4.out.2.1.trans (hb5.mono (Nat.le_refl _))).mono H2.out.1.size)
        have HF := Lib.hid (And.intro (own_wide ho5 (show B ≤ w2.heap.size by omega)) hbF)
        clear ho5 hg5 hb5 hbF
        go_wp2_with fail
        go_ret
        have hlen : (ps.take j ++ p :: R).length = j + 1 + R.length := by rw [List.length_append, List.length_take, List.length_cons, HL.out]; omega
        refine ⟨PutAns.put (qs := ps.take j ++ p :: R) ?_ ⟨fun h => by rw [← HRR.out]; exact ins_rise h (by rw [HL.out]; exact hj) HA.out HE.out, fun x => by rw [← HRR.out]; exact ins_mem ps p j x, by rw [hlen, HLL.out, HL.out]; omega, by rw [hlen]; omega⟩, HF.out.2⟩
        unfold OwnS
        rw [hlen]
        have h9 := HF.out.1
        simpa [sE] using h9
end Go.Proofs.YtihiakkeloejlaaGreatDoor
/- The reference's Paths of a Base and two rows of items. -/
set_option linter.unusedVariables false
set_option linter.unusedSimpArgs false
namespace Go.Proofs.YtihiakkeloejlaaGreatDoor
open Go Go.RowKit
open Sw
/-- the paths so far -/
def PsI (w : World) (o : Value) (S : List ByteArray) (W : World) : Prop := ∃ qs, OwnS W w.heap.size o qs ∧ Rise qs ∧ (∀ q, q ∈ qs ↔ q ∈ S) ∧ qs.length ≤ S.length ∧ (qs = [] → o = .slice none 0 0)
theorem PsI.below {w : World} {o : Value} {S : List ByteArray} {A B : World} (h : PsI w o S A) (hb : Below A.heap.size A B) : PsI w o S B := by
  obtain ⟨qs, h1, h2⟩ := h
  exact ⟨qs, h1.below hb, h2⟩
/-- what Paths answers -/
def PathsAns (w' : World) (B : Nat) (S : List ByteArray) (e : Ending) : Prop := ∃ u, e = .returned u ∧ OwnS w' B u (pathsS S)
theorem PsI.ans {w : World} {o : Value} {S : List ByteArray} {W : World} (h : PsI w o S W) : PathsAns W w.heap.size S (.returned o) := by
  obtain ⟨qs, h1, h2, h3, _⟩ := h
  exact ⟨o, rfl, by rw [pathsS_eq h2 h3]; exact h1⟩
/-- one more path is put -/
theorem psI_put {w : World} {o : Value} {S : List ByteArray} {W : World} (h : PsI w o S W) (hB : w.heap.size ≤ W.heap.size) (hl : S.length ≤ 1000) (p : ByteArray) (hz : ∀ q ∈ S, q.size ≤ 90000) (hp : p.size ≤ 90000) :
    Calls Tryz.prog 56 #[o, .string p] W fun e w' => (∃ u, e = .returned u ∧ PsI w u (S ++ [p]) w') ∧ Below W.heap.size W w' := by
  obtain ⟨qs, h1, h2, h3, h4, h5⟩ := h
  refine (refPutP_any W w.heap.size o qs p h1 hB (by omega) (fun q hq => hz q ((h3 q).1 hq)) hp h5).mono ?_
  rintro e w' ⟨⟨u, rs, rfl, g1, g2⟩, hb⟩
  exact ⟨⟨u, rfl, rs, g1, g2.1 h2, fun q => by rw [g2.2.1 q, h3 q, List.mem_append, List.mem_singleton, Or.comm], by rw [List.length_append]; have := g2.2.2.1; simp only [List.length_singleton]; omega, fun h => by have := g2.2.2.2; rw [h] at this; simp at this⟩, hb⟩
set_option maxRecDepth 100000 in
set_option maxHeartbeats 8000000 in
theorem refPathsP_any (w : World) (u1 u2 : Value) (l1 l2 : List MkE) (h1 : SlV w 6 eCM u1 l1) (h2 : SlV w 6 eCM u2 l2) (hn1 : l1.length ≤ 100) (hn2 : l2.length ≤ 100) (hz1 : ∀ m ∈ l1 ++ l2, m.1.size ≤ 90000)
    (v1 v2 : Value) (xs ys : List NE) (g1 : SlV w 5 eCSN v1 xs) (g2 : SlV w 5 eCSN v2 ys) (hm1 : xs.length ≤ 100) (hm2 : ys.length ≤ 100) (hz2 : ∀ m ∈ xs ++ ys, m.1.size ≤ 90000) :
    Calls Tryz.prog 34 #[.agg #[u1, u2], v1, v2] w fun e w' => PathsAns w' w.heap.size ((l1 ++ l2).map Prod.fst ++ (xs ++ ys).map Prod.fst) e ∧ Below w.heap.size w w' := by
  obtain ⟨W, hW⟩ : ∃ W, w.alloc (.cells #[u1, u2] 75) = W := ⟨_, rfl⟩
  have hb0 : Below w.heap.size w W := by rw [← hW]; exact (Below.refl _ w).alloc (Nat.le_refl _) _
  have hB0 : Blk W w.heap.size 75 #[u1, u2] := by rw [← hW]; exact Blk.new w _ _
  have HS := Lib.hid (And.intro (h1.below hb0 (Nat.le_refl _)) (h2.below hb0 (Nat.le_refl _)))
  have HI := Lib.hid (And.intro (And.intro (g1.below hb0 (Nat.le_refl _)) (g2.below hb0 (Nat.le_refl _))) (And.intro hz1 hz2))
  obtain ⟨A1, c1, rfl, hc1, hm1', _⟩ := h1
  obtain ⟨A2, c2, rfl, hc2, hm2', _⟩ := h2
  obtain ⟨A3, c3, rfl, _, _, _⟩ := g1
  obtain ⟨A4, c4, rfl, _, _, _⟩ := g2
  clear hz1 hz2
  obtain ⟨n2, hn2'⟩ : ∃ n, l2.length = n := ⟨_, rfl⟩
  obtain ⟨n1, hn1'⟩ : ∃ n, l1.length = n := ⟨_, rfl⟩
  obtain ⟨n4, hn4'⟩ : ∃ n, ys.length = n := ⟨_, rfl⟩
  obtain ⟨n3, hn3'⟩ : ∃ n, xs.length = n := ⟨_, rfl⟩
  rw [hn2'] at hB0 hW hc2 hn2 ⊢
  rw [hn1'] at hB0 hW hc1 hn1 ⊢
  rw [hn3'] at hm1 ⊢
  rw [hn4'] at hm2 ⊢
  unfold maxLen at hm1' hm2'
  have HL := Lib.hid (And.intro (And.intro hn1' hn2') (And.intro hn3' hn4'))
  rw [hn1', hn2'] at HS
  rw [hn3', hn4'] at HI
  clear hn1' hn2' hn3' hn4'
  obtain ⟨g, hg⟩ : ∃ g, w.heap.size = g := ⟨_, rfl⟩
  rw [hg] at hB0
  have HW := Lib.hid (And.intro hW (And.intro hb0 (And.intro hB0 hg))); clear hW hb0 hB0
  go_enter Tryz.func34, Tryz.ntmps34
  go_upto_region 1 with fail
  rw [HW.out.1]
  clear hg
  go_upto_region 2 with fail
  have k0 : ∀ m : Held (fun W => Blk W g 75 #[.slice A1 n1 c1, .slice A2 n2 c2]), (HeldW m).cell? ⟨g, 0, none⟩ = some (.slice A1 n1 c1) := fun m => (HeldW_spec m).cell 0
  have k1 : ∀ m : Held (fun W => Blk W g 75 #[.slice A1 n1 c1, .slice A2 n2 c2]), (HeldW m).cell? ⟨g, 1, none⟩ = some (.slice A2 n2 c2) := fun m => (HeldW_spec m).cell 1
  have HC0 := Lib.hid HW.out.2.2.1.drew
  refine wp_region_mix (fun W => Blk W g 75 #[.slice A1 n1 c1, .slice A2 n2 c2]) [(1, true), (2, true), (4, true), (5, true), (8, true), (0, false), (3, false), (6, false), (7, true)] (by kernel_rfl) (by kernel_rfl) ?_
  simp only [pickP, List.filterMap_cons, List.filterMap_nil, List.getElem?_toArray, List.getElem?_cons_succ, List.getElem?_cons_zero, Option.map_some]
  repeat (apply mix_first; apply Exists.intro; refine ⟨fun m => ?_, HC0.out, ?_⟩; · (go_big_quiet_step (fail); exact wpQuiet_nil rfl))
  refine mix_forced HC0.out ?_
  go_wp2_with fail
  show mixC _ _ _ _ _ _ _
  have hs0 := HW.out.2.1.size
  rw [HW.out.2.2.2] at hs0
  have hbE : Below W.heap.size W (W.alloc (.cells #[] 107)).drew := ((Below.refl _ W).alloc (Nat.le_refl _) _).drew
  have hoE : (W.alloc (.cells #[] 107)).drew.ownsRow W.heap.size 107 6 (.slice (some ⟨W.heap.size, 0, none⟩) 0 0) 0 [] := own_emptyB W W.heap.size _ 6 (Nat.le_refl _)
  have HE := Lib.hid (And.intro hbE (And.intro hoE (And.intro (HW.out.2.2.1.below hbE HW.out.2.2.1.lt) (And.intro (HS.out.1.below hbE (Nat.le_refl _)) (HS.out.2.below hbE (Nat.le_refl _))))))
  clear hbE hoE HC0
  generalize (W.alloc (.cells #[] 107)).drew = W1 at *
  refine mix_forced HE.out.2.2.1 ?_
  go_wp2_with (at_builtin; refine wpList_app_slv rfl _ _ 73 rfl W.heap.size 107 (.agg #[.string ⟨#[]⟩, .int .i64 0, .int .i64 0, .int .u32 0, .int .i64 0, .int .u32 0]) 6 56 Tryz.underlying73 infoMk rfl (by decide) _ 0 _ rfl HE.out.2.1 eCM eCM_len eCM_one _ l1 rfl HE.out.2.2.2.1 (by have := HL.out.1.1; omega) (by decide) HE.out.1.size ?_; intro v5 w5 ho5 hg5)
  show mixC _ _ _ _ _ _ _
  obtain ⟨A5, k5, rfl, _, _, _⟩ := SlV_of_any ho5
  have hb5 := HE.out.1.grown hg5 HE.out.1.size (fun q hq => (HE.out.2.1.lt q hq).1)
  have H5 := Lib.hid (And.intro hb5 (And.intro ho5 (And.intro (HW.out.2.2.1.below hb5 HW.out.2.2.1.lt) (HS.out.2.below hb5 (Nat.le_refl _))))); clear ho5 hg5 hb5 HE
  refine mix_forced H5.out.2.2.1 ?_
  go_wp2_with (at_builtin; refine wpList_app_slv rfl _ _ 73 rfl W.heap.size 107 (.agg #[.string ⟨#[]⟩, .int .i64 0, .int .i64 0, .int .u32 0, .int .i64 0, .int .u32 0]) 6 56 Tryz.underlying73 infoMk rfl (by decide) _ (0 + l1.length) _ rfl H5.out.2.1 eCM eCM_len eCM_one _ l2 rfl H5.out.2.2.2 (by have := HL.out.1; omega) (by decide) H5.out.1.size ?_; intro v6 w6 ho6 hg6)
  show mixC _ _ _ _ _ _ _
  have hb6 := H5.out.1.grown hg6 H5.out.1.size (fun q hq => (H5.out.2.1.lt q hq).1)
  have ho6' : w6.ownsRow W.heap.size 107 6 v6 (l1 ++ l2).length ((l1 ++ l2).flatMap eCM) := by
    rw [List.length_append, List.flatMap_append]
    rw [List.nil_append, Nat.zero_add] at ho6
    exact ho6
  have hsl6 : SlV w6 6 eCM v6 (l1 ++ l2) := SlV.of_own ho6' eCM_len (by decide)
  have hll : (l1 ++ l2).length = n1 + n2 := by rw [List.length_append, HL.out.1.1, HL.out.1.2]
  rw [hll] at ho6'
  obtain ⟨A6, k6, rfl, _, _, _⟩ := SlV_of_any ho6'
  have H6 := Lib.hid (And.intro hb6 (And.intro (HW.out.2.2.1.below hb6 HW.out.2.2.1.lt) hsl6)); clear ho6 hg6 hb6 H5 ho6' hsl6
  obtain ⟨L, hLe⟩ : ∃ L, l1 ++ l2 = L := ⟨_, rfl⟩
  rw [hLe] at hll H6 HI
  have HLE := Lib.hid hLe; clear hLe
  obtain ⟨n, hnn⟩ : ∃ n, n1 + n2 = n := ⟨_, rfl⟩
  rw [hnn] at hll
  have hn60 : n ≤ 200 := by omega
  have HN := Lib.hid hll
  rw [hnn] at H6 ⊢
  clear hll hnn
  repeat (apply mix_first; apply Exists.intro; refine ⟨fun m => ?_, H6.out.2.1, ?_⟩; · (go_big_quiet_step (fail); exact wpQuiet_nil rfl))
  refine mix_nil H6.out.2.1 ?_
  clear k0 k1
  go_wp2_with fail
  go_loopw [7, 20] (fun o iv wr => ∃ i : Nat, i ≤ n ∧ iv = .int .i64 i ∧ Below W.heap.size W wr ∧ Below w6.heap.size w6 wr ∧ PsI w o ((L.take i).map Prod.fst) wr) (fun _ iv _ => n - (intOf iv).toNat)
  case atStart => exact ⟨0, Nat.zero_le _, rfl, H6.out.1, Below.refl _ _, [], World.ownsRow_nil _ _ _ _, List.Pairwise.nil, fun q => by simp, by simp, fun _ => rfl⟩
  case round =>
    obtain ⟨i, hi, rfl, hb, hb6, hP⟩ := hrel
    have hslr := H6.out.2.2.below hb6 (Nat.le_refl _)
    have hww := Nat.le_trans HW.out.2.1.size hb.size
    by_cases hlt : i < n
    · have hiL : i < L.length := by have := HN.out; omega
      obtain ⟨A', c', hA, _, _, hso⟩ := hslr
      obtain ⟨rfl, -, rfl⟩ : A6 = A' ∧ n = L.length ∧ k6 = c' := by simpa using hA
      clear hA
      obtain ⟨b, off, rfl, hbb, hcs⟩ := hso (by omega)
      have c0 := hcs i hiL 0 (by omega)
      have c1 := hcs i hiL 1 (by omega)
      have c2 := hcs i hiL 2 (by omega)
      have c3' := hcs i hiL 3 (by omega)
      have c4 := hcs i hiL 4 (by omega)
      have c5 := hcs i hiL 5 (by omega)
      simp only [eCM, List.getElem?_cons_succ, List.getElem?_cons_zero, Nat.add_zero] at c0 c1 c2 c3' c4 c5
      clear hcs hso hbb
      have hi1 : (i : Int) < n := by omega
      have hqz := HI.out.2.1 _ (List.getElem_mem hiL)
      have hst : (L.take (i + 1)).map Prod.fst = (L.take i).map Prod.fst ++ [L[i].1] := by rw [List.take_succ_eq_append_getElem hiL, List.map_append]; rfl
      obtain ⟨⟨q, ⟨kd, md, tm, sz, sm⟩⟩, hx⟩ : ∃ x, L[i] = x := ⟨_, rfl⟩
      simp only [hx] at c0 c1 c2 c3' c4 c5 hqz hst
      clear hx
      have hba := (Below.refl wr.heap.size wr).alloc (Nat.le_refl _) (.cells #[.string q, .int .i64 kd, .int .i64 md, .int .u32 tm, .int .i64 sz, .int .u32 sm] 107)
      have HPU := Lib.hid (psI_put (hP.below hba) (by simp; omega) (by rw [List.length_map, List.length_take]; omega) q (fun x hx => by
        obtain ⟨m, hm, rfl⟩ := List.mem_map.1 hx
        exact HI.out.2.1 m (List.mem_of_mem_take hm)) hqz)
      have H1 := Lib.hid (And.intro (hb.trans (hba.mono hb.size)) (hb6.trans (hba.mono hb6.size)))
      have HST := Lib.hid hst
      clear hb hb6 hba hP hst hqz
      go_wp2_with fail
      refine HPU.out.mono ?_
      rintro e w7 ⟨⟨u, rfl, hP7⟩, hb7⟩
      rw [← HST.out] at hP7
      have H7 := Lib.hid (And.intro (H1.out.1.trans (hb7.mono H1.out.1.size)) (And.intro (H1.out.2.trans (hb7.mono H1.out.2.size)) hP7)); clear hb7 hP7 HPU H1
      go_wp2_with fail
      go_roundw
      case rel => exact ⟨i + 1, by omega, by go_num, H7.out.1, H7.out.2.1, H7.out.2.2⟩
      case measure => simp [intOf]; omega
    · obtain rfl : i = n := by omega
      have hf : L.take i = L := List.take_of_length_le (by have := HN.out; omega)
      rw [hf] at hP
      have H8 := Lib.hid (And.intro hb hP)
      have hsI1 := HI.out.1.1.below hb (Nat.le_refl _)
      have hsI2 := HI.out.1.2.below hb (Nat.le_refl _)
      have HI2 := Lib.hid (And.intro hsI1 hsI2)
      clear hf hb hb6 hP hslr hsI1 hsI2 H6
      generalize wr = w8 at *
      have hmm : n3 + ys.length = (xs ++ ys).length := by rw [List.length_append, HL.out.2.1]
      have hmf : xs.flatMap eCSN ++ ys.flatMap eCSN = (xs ++ ys).flatMap eCSN := by rw [List.flatMap_append]
      have hml : (xs ++ ys).length ≤ 200 := by rw [List.length_append, HL.out.2.1, HL.out.2.2]; omega
      obtain ⟨M, hMe⟩ : ∃ M, xs ++ ys = M := ⟨_, rfl⟩
      rw [hMe] at hmm hmf hml HI
      have HME := Lib.hid hMe; clear hMe
      obtain ⟨m, hm⟩ : ∃ m, M.length = m := ⟨_, rfl⟩
      rw [hm] at hmm hml
      have HMM := Lib.hid (And.intro hmm (And.intro hmf hm)); clear hmm hmf hm
      go_wp2_with (first | (at_builtin; refine wpList_app_slv rfl _ _ 22 rfl w8.heap.size 56 (.agg #[.string ⟨#[]⟩, .int .i64 0, .int .i64 0, .int .u32 0, .string ⟨#[]⟩]) 5 56 Tryz.underlying22 infoIt rfl (by decide) _ 0 _ rfl (own_emptyB w8 w8.heap.size _ 5 (Nat.le_refl _)) eCSN eCSN_len eCSN_one _ xs rfl (HI2.out.1.below ((Below.refl _ w8).alloc (Nat.le_refl _) _) (Nat.le_refl _)) (by have := HL.out.2.1; omega) (by decide) (by simp) ?_; intro v9 w9 ho9 hg9; rw [Nat.zero_add, List.nil_append, HL.out.2.1] at ho9; have hb9 : Below w8.heap.size w8 w9 := ((Below.refl _ w8).alloc (Nat.le_refl _) _).grown hg9 (by simp) (fun q hq => by cases hq; exact Nat.le_refl _); obtain ⟨A9, k9, rfl, _, _, _⟩ := SlV_of_any ho9; have hz9 := hb9.size; have H9 := Lib.hid (And.intro hb9 (And.intro ho9 (HI2.out.2.below hb9 (Nat.le_refl _)))); clear ho9 hg9 hb9) | (at_builtin; refine wpList_app_slv rfl _ _ 22 rfl w8.heap.size 56 (.agg #[.string ⟨#[]⟩, .int .i64 0, .int .i64 0, .int .u32 0, .string ⟨#[]⟩]) 5 56 Tryz.underlying22 infoIt rfl (by decide) (.slice A9 n3 k9) n3 _ rfl H9.out.2.1 eCSN eCSN_len eCSN_one _ ys rfl H9.out.2.2 (by have := HL.out.2; omega) (by decide) hz9 ?_; intro v10 w10 ho10 hg10; rw [HMM.out.1, HMM.out.2.1] at ho10; have hb10 := H9.out.1.grown hg10 hz9 (fun q hq => (H9.out.2.1.lt q hq).1); obtain ⟨A10, k10, rfl, _, _, _⟩ := SlV_of_any ho10; have H10 := Lib.hid (And.intro hb10 ho10); clear ho10 hg10 hb10 H9))
      have hsl10 : SlV w10 5 eCSN (.slice A10 m k10) M := SlV.of_own H10.out.2 eCSN_len (by decide)
      have hbW10 := H8.out.1.trans (H10.out.1.mono H8.out.1.size)
      have H11 := Lib.hid (And.intro hbW10 (And.intro (H8.out.2.below H10.out.1) hsl10)); clear hsl10 hbW10 H10
      go_loopw [7, 35] (fun o iv wr => ∃ j : Nat, j ≤ m ∧ iv = .int .i64 j ∧ Below W.heap.size W wr ∧ Below w10.heap.size w10 wr ∧ PsI w o (L.map Prod.fst ++ (M.take j).map Prod.fst) wr) (fun _ iv _ => m - (intOf iv).toNat)
      case atStart => exact ⟨0, Nat.zero_le _, rfl, H11.out.1, Below.refl _ _, by have := H11.out.2.1; simpa using this⟩
      case round =>
        obtain ⟨j, hj, rfl, hb, hb10, hP⟩ := hrel
        have hslr := H11.out.2.2.below hb10 (Nat.le_refl _)
        have hww2 := Nat.le_trans HW.out.2.1.size hb.size
        by_cases hlt2 : j < m
        · have hjM : j < M.length := by have := HMM.out.2.2; omega
          obtain ⟨A', c', hA, _, _, hso⟩ := hslr
          obtain ⟨rfl, -, rfl⟩ : A10 = A' ∧ m = M.length ∧ k10 = c' := by simpa using hA
          clear hA
          obtain ⟨b, off, rfl, hbb, hcs⟩ := hso (by omega)
          have c0 := hcs j hjM 0 (by omega)
          have c1 := hcs j hjM 1 (by omega)
          have c2 := hcs j hjM 2 (by omega)
          have c3' := hcs j hjM 3 (by omega)
          have c4 := hcs j hjM 4 (by omega)
          simp only [eCSN, List.getElem?_cons_succ, List.getElem?_cons_zero, Nat.add_zero] at c0 c1 c2 c3' c4
          clear hcs hso hbb
          have hj1 : (j : Int) < m := by omega
          have hqz := HI.out.2.2 _ (List.getElem_mem hjM)
          have hst : L.map Prod.fst ++ (M.take (j + 1)).map Prod.fst = L.map Prod.fst ++ (M.take j).map Prod.fst ++ [M[j].1] := by rw [List.take_succ_eq_append_getElem hjM, List.map_append, List.append_assoc]; rfl
          obtain ⟨⟨q, ⟨kd, md, tm, dt⟩⟩, hx⟩ : ∃ x, M[j] = x := ⟨_, rfl⟩
          simp only [hx] at c0 c1 c2 c3' c4 hqz hst
          clear hx
          have hba := (Below.refl wr.heap.size wr).alloc (Nat.le_refl _) (.cells #[.string q, .int .i64 kd, .int .i64 md, .int .u32 tm, .string dt] 56)
          have HPU := Lib.hid (psI_put (hP.below hba) (by simp; omega) (by rw [List.length_append, List.length_map, List.length_map, List.length_take]; have := HN.out; omega) q (fun x hx => by
            rcases List.mem_append.1 hx with hx | hx
            · obtain ⟨m, hm, rfl⟩ := List.mem_map.1 hx
              exact HI.out.2.1 m hm
            · obtain ⟨m, hm, rfl⟩ := List.mem_map.1 hx
              exact HI.out.2.2 m (List.mem_of_mem_take hm)) hqz)
          have H1 := Lib.hid (And.intro (hb.trans (hba.mono hb.size)) (hb10.trans (hba.mono hb10.size)))
          have HST := Lib.hid hst
          clear hb hb10 hba hP hst hqz
          go_wp2_with fail
          refine HPU.out.mono ?_
          rintro e w7 ⟨⟨u, rfl, hP7⟩, hb7⟩
          rw [← HST.out] at hP7
          have H7 := Lib.hid (And.intro (H1.out.1.trans (hb7.mono H1.out.1.size)) (And.intro (H1.out.2.trans (hb7.mono H1.out.2.size)) hP7)); clear hb7 hP7 HPU H1
          go_wp2_with fail
          go_roundw
          case rel => exact ⟨j + 1, by omega, by go_num, H7.out.1, H7.out.2.1, H7.out.2.2⟩
          case measure => simp [intOf]; omega
        · obtain rfl : j = m := by omega
          have hf : M.take j = M := List.take_of_length_le (by have := HMM.out.2.2; omega)
          rw [hf] at hP
          have HF := Lib.hid (And.intro hP (HW.out.2.1.trans (hb.mono HW.out.2.1.size)))
          clear hf hP hb hb10 hslr
          go_wp2_with fail
          go_ret
          exact ⟨by rw [HLE.out, HME.out]; exact HF.out.1.ans, HF.out.2⟩
end Go.Proofs.YtihiakkeloejlaaGreatDoor
