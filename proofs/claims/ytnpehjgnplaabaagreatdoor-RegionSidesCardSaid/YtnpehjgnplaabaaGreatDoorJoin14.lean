/- Several texts, joined for the limit of sixty files; each one opens with its own comment. -/
import Derived.Test.YtnpehjgnplaabaaGreatDoorJoin13
import Derived.Test.YtnpehjgnplaabaaGreatDoorJoin1
import Derived.Test.YtnpehjgnplaabaaGreatDoorJoin7
import Derived.Test.YtnpehjgnplaabaaGreatDoorJoin2
import Derived.Test.YtnpehjgnplaabaaGreatDoorChecked
import Derived.Test.YtnpehjgnplaabaaGreatDoorJoin9
import Derived.RegionTactic
import Derived.BigRegion
/- Several texts, joined for the limit of sixty files; each one opens with its own comment. -/
/- Contracts of sum.Table.Step, Begin, End. -/
set_option linter.unusedVariables false
namespace Go.Proofs.YtnpehjgnplaabaaGreatDoor
open Go.RowKit
open Sw
theorem step_index (s b : Nat) (hb : b < 256) : bits .xor .u8 ((s : Int) % 256) (b : Int) = (((s ^^^ b) % 256 : Nat) : Int) := by
  have h := u8_xor_nat (s % 256) b (by omega) hb
  have e : ((s : Int) % 256) = ((s % 256 : Nat) : Int) := by omega
  rw [e, h]
  have hx := Nat.xor_mod_two_pow (a := s) (b := b) (n := 8)
  have hb2 : b % 256 = b := by omega
  have h8 : (2 : Nat) ^ 8 = 256 := rfl
  rw [h8, hb2] at hx
  rw [hx]
theorem step_value (s b : Nat) (hs : s < 4294967296) (hb : b < 256) : bits .xor .u32 ((stpN 8 ((s ^^^ b) % 256) : Nat) : Int) ((s : Int) / 256) = ((byteS s b : Nat) : Int) := by
  have e : ((s : Int) / 256) = ((s / 256 : Nat) : Int) := by omega
  have hl := stpN_lt 8 ((s ^^^ b) % 256) (by have := Nat.mod_lt (s ^^^ b) (show 0 < 256 by omega); omega)
  rw [e, u32_xor_nat _ _ hl (by omega), table_step s b hb]
set_option maxHeartbeats 400000 in
theorem sumStep_any (w : World) (g : Nat) (cs : Array Value) (s b : Nat) (hs : s < 4294967296) (hb : b < 256) (h : Blk w g 237 cs) (ht : IsTab cs) :
    Calls Tryz.prog 209 #[.pointer (some ⟨g, 0, none⟩), .int .u32 s, .int .u8 b] w fun e w' => e = .returned (.int .u32 (byteS s b : Nat)) ∧ w = w' := by
  have hc : w.cell? ⟨g, (s ^^^ b) % 256, none⟩ = some (.int .u32 (stpN 8 ((s ^^^ b) % 256) : Nat)) := by
    rw [Blk.cell h]
    exact ht.2 _ (Nat.mod_lt _ (by omega))
  have e1 := step_index s b hb
  have e2 := step_value s b hs hb
  have hlt : (s ^^^ b) % 256 < 256 := Nat.mod_lt _ (by omega)
  generalize (s ^^^ b) % 256 = x at hc e1 e2 hlt
  generalize stpN 8 x = y at hc e2
  generalize byteS s b = z at e2 ⊢
  have E2 := Lib.hid e2; clear e2
  go_enter Tryz.func209, Tryz.ntmps209
  go_wp2
  go_ret
  rw [← E2.out]
  exact ⟨rfl, rfl⟩
theorem begin_any (w : World) : Calls Tryz.prog 181 #[] w fun e w' => e = .returned (.int .u32 4294967295) ∧ w = w' := by
  go_enter Tryz.func181, Tryz.ntmps181
  go_wp2
  go_ret
  exact ⟨rfl, rfl⟩
theorem end_value (s : Nat) (hs : s < 4294967296) : bits .xor .u32 IntKind.u32.max (s : Int) = ((4294967295 - s : Nat) : Int) := by
  have e : IntKind.u32.max = ((4294967295 : Nat) : Int) := by decide
  rw [e, u32_xor_nat 4294967295 s (by omega) hs, not_xor s hs, Nat.xor_comm]
theorem end_any (w : World) (s : Nat) (hs : s < 4294967296) : Calls Tryz.prog 179 #[.int .u32 s] w fun e w' => e = .returned (.int .u32 (4294967295 - s : Nat)) ∧ w = w' := by
  have hsg : IntKind.u32.signed = false := rfl
  have E := Lib.hid (end_value s hs)
  go_enter Tryz.func179, Tryz.ntmps179
  go_wp2
  go_ret
  rw [← E.out]
  exact ⟨rfl, rfl⟩
theorem feedS_take (s : Nat) (t : ByteArray) (k : Nat) (h : k < t.size) : feedS s (t.data.toList.take (k + 1)) = byteS (feedS s (t.data.toList.take k)) t[k].toNat := by
  rw [List.take_succ_eq_append_getElem (by simpa using h), feedS_append, feedS_cons]
  show byteS _ t.data[k].toNat = byteS _ t.data[k].toNat
  rfl
end Go.Proofs.YtnpehjgnplaabaaGreatDoor
/- Contracts of sum.Table.Feed and sum.Of; the document's example. -/
set_option linter.unusedVariables false
namespace Go.Proofs.YtnpehjgnplaabaaGreatDoor
open Go.RowKit
open Sw
def feedL : Nat → List ByteArray → Nat
  | s, [] => s
  | s, t :: l => feedL (feedS s t.data.toList) l
theorem feedL_lt (l : List ByteArray) : ∀ (s : Nat), s < 2 ^ 32 → feedL s l < 2 ^ 32 := by
  induction l with
  | nil => intro s h; rw [feedL]; exact h
  | cons t l ih => intro s h; rw [feedL]; exact ih _ (feedS_lt _ s h)
theorem feedL_take (s : Nat) (l : List ByteArray) (k : Nat) (h : k < l.length) : feedL s (l.take (k + 1)) = feedS (feedL s (l.take k)) l[k].data.toList := by
  induction l generalizing s k with
  | nil => simp at h
  | cons t l ih =>
    cases k with
    | zero => simp [feedL]
    | succ k =>
      rw [List.take_succ_cons, List.take_succ_cons, feedL, feedL]
      exact ih _ k (by simpa using h)
def strE (t : ByteArray) : List Value := [.string t]
set_option maxRecDepth 100000 in
set_option maxHeartbeats 1000000 in
theorem feed_any (w : World) (g : Nat) (cs : Array Value) (s : Nat) (A : Option Addr) (n c : Nat) (l : List ByteArray) (hs : s < 4294967296) (h : Blk w g 237 cs) (ht : IsTab cs) (hl : l.length = n) (hnm : n ≤ maxLen) (hsl : SlOf w 1 strE A l) (hm : ∀ t ∈ l, t.size ≤ maxLen) :
    Calls Tryz.prog 180 #[.pointer (some ⟨g, 0, none⟩), .int .u32 s, .slice A n c] w fun e w' => e = .returned (.int .u32 (feedL s l : Nat)) ∧ w = w' := by
  unfold maxLen at hnm
  have HS := Lib.hid hsl; clear hsl
  have HM := Lib.hid hm; clear hm
  have HT := Lib.hid ht; clear ht
  have HL := Lib.hid hl; clear hl
  go_enter Tryz.func180, Tryz.ntmps180
  go_wp2_with fail
  go_loop [1, 8, 9, 12] (fun x _ _ i => ∃ k : Nat, k ≤ n ∧ i = .int .i64 k ∧ x = .int .u32 (feedL s (l.take k) : Nat)) (fun _ _ _ i => n - (intOf i).toNat)
  case atStart => exact ⟨0, Nat.zero_le _, rfl, rfl⟩
  case round =>
    obtain ⟨k, hk, rfl, rfl⟩ := hrel
    by_cases hlt : k < n
    · have hkl : k < l.length := by have := HL.out; omega
      obtain ⟨b, off, rfl, hb, hc⟩ := HS.out (by omega)
      have hc0 := hc k hkl 0 (by omega)
      simp [strE] at hc0
      clear hc
      have ht := HM.out l[k] (List.getElem_mem _)
      have HX := Lib.hid (feedL_take s l k hkl)
      have hx := feedL_lt (l.take k) s hs
      generalize feedL s (l.take k) = x at *
      generalize l[k] = t at *
      unfold maxLen at ht
      go_wp2_with fail
      go_loop [1, 9, 18] (fun y _ i => ∃ j : Nat, j ≤ t.size ∧ i = .int .i64 j ∧ y = .int .u32 (feedS x (t.data.toList.take j) : Nat)) (fun _ _ i => t.size - (intOf i).toNat)
      case atStart => exact ⟨0, Nat.zero_le _, rfl, rfl⟩
      case round =>
        obtain ⟨j, hj, rfl, rfl⟩ := hrel
        by_cases hjt : j < t.size
        · have hy := feedS_lt (t.data.toList.take j) x hx
          have HY := Lib.hid (feedS_take x t j hjt)
          have hbt := t[j].toNat_lt
          generalize feedS x (t.data.toList.take j) = y at *
          go_wp2_with (go_at_call 209; refine (sumStep_any _ g cs y t[j].toNat hy (by omega) h HT.out).mono ?_; rintro e w' ⟨rfl, rfl⟩)
          exact ⟨⟨j + 1, by omega, by go_num, by rw [HY.out]⟩, by simp [intOf]; omega⟩
        · obtain rfl : j = t.size := by omega
          have hr : t.data.toList.take t.size = t.data.toList := List.take_of_length_le (by simp)
          have HR := Lib.hid hr; clear hr
          go_wp2_with fail
          exact ⟨⟨k + 1, by omega, by go_num, by rw [HX.out, HR.out]⟩, by simp [intOf]; omega⟩
    · obtain rfl : k = n := by omega
      have hr : l.take k = l := List.take_of_length_le (by rw [HL.out]; exact Nat.le_refl _)
      have HR := Lib.hid hr; clear hr
      go_wp2_with fail
      go_ret
      rw [HR.out]
      exact ⟨rfl, rfl⟩
theorem IsTab.one {cs : Array Value} (h : IsTab cs) : cs.all (·.oneCell') = true := by
  rw [Array.all_eq_true]
  intro i hi
  have h1 := h.2 i (by have := h.1; omega)
  rw [Array.getElem?_eq_getElem hi] at h1
  injection h1 with h1
  rw [h1]; rfl
set_option maxRecDepth 100000 in
set_option maxHeartbeats 1000000 in
theorem sumOf_any (w : World) (t : ByteArray) (ht : t.size ≤ maxLen) :
    Calls Tryz.prog 147 #[.string t] w fun e w' => e = .returned (.int .u32 (ofS t.data.toList : Nat)) ∧ Below w.heap.size w w' := by
  obtain ⟨v, hv, hvs⟩ := info_tab
  obtain ⟨hz, hzi⟩ := zero_of_info hv
  have HV := Lib.hid hvs; clear hvs
  have HZI := Lib.hid hzi; clear hzi hv
  have HT := Lib.hid ht; clear ht
  have hx := feedS_lt t.data.toList 4294967295 (by omega)
  go_enter Tryz.func147, Tryz.ntmps147
  go_wp2_with (first | (go_at_call 178; refine (made_any _).mono ?_; rintro e w1 ⟨cs, rfl, htab, hb1⟩; have HTAB := Lib.hid htab; clear htab) | (refine wpList_store_row rfl 237 _ _ rfl w1.heap.size cs rfl rfl 237 v (Blk.new _ _ _) (by rw [HTAB.out.1]; exact HZI.out) (by rw [HV.out, HTAB.out.1]) HTAB.out.one ?_; rw [World.setRow_alloc_new]) | (go_at_call 181; refine (begin_any _).mono ?_; rintro e w' ⟨rfl, rfl⟩))
  have hB := Blk.new (w1.alloc (Obj.cells cs 237)) 9 #[Value.string t]
  have hA := Blk.alloc (Blk.new w1 237 cs) (Obj.cells #[Value.string t] 9)
  rw [show (w1.alloc (Obj.cells cs 237)).heap.size = w1.heap.size + 1 by simp] at hB
  refine (feed_any _ w1.heap.size cs 4294967295 (some ⟨w1.heap.size + 1, 0, none⟩) 1 1 [t] (by omega) hA HTAB.out rfl (by unfold maxLen; omega) (SlOf.of_blk1 (e := Value.string) hB rfl) (by simpa using HT.out)).mono ?_
  rintro e w' ⟨rfl, rfl⟩
  have he : feedL 4294967295 [t] = feedS 4294967295 t.data.toList := by simp [feedL]
  rw [he]
  clear he
  go_wp2_with (go_at_call 179; refine (end_any _ _ hx).mono ?_; rintro e w' ⟨rfl, rfl⟩)
  go_ret
  exact ⟨rfl, (hb1.alloc hb1.size _).alloc (by simpa using Nat.le_succ_of_le hb1.size) _⟩
end Go.Proofs.YtnpehjgnplaabaaGreatDoor
/- Contracts of node.Print and of the reference's Print. -/
set_option linter.unusedVariables false
set_option linter.unusedSimpArgs false
namespace Sw
open Go
def printN (n : Nd) : Pr := ⟨n.kind, n.mode, n.time, n.data.size, if n.kind = 1 then (ofS n.data.data.toList : Nat) else 0⟩
end Sw
namespace Go.Proofs.YtnpehjgnplaabaaGreatDoor
open Go.RowKit
open Sw
set_option maxRecDepth 100000 in
set_option maxHeartbeats 4000000 in
theorem print_any (w : World) (n : Nd) (hm : n.data.size ≤ maxLen) :
    Calls Tryz.prog 104 #[.agg n.c] w fun e w' => e = .returned (.agg (printN n).c) ∧ Below w.heap.size w w' := by
  have HS := Lib.hid (fun W => sumOf_any W n.data hm)
  obtain ⟨kind, mode, time, data⟩ := n
  unfold printN Pr.c Nd.c
  simp only at HS hm ⊢
  unfold maxLen at hm
  by_cases hk : kind = 1
  · rw [if_pos hk]
    subst hk
    generalize ofS data.data.toList = sm at *
    go_enter Tryz.func104, Tryz.ntmps104
    go_wp2_with fail
    refine (HS.out _).mono ?_
    rintro e w1 ⟨rfl, hb1⟩
    have hP := (blk_trd w (.cells #[.int .i64 1, .int .i64 mode, .int .u32 time, .string data] 57) (.cells #[.int .i64 0, .int .i64 0, .int .u32 0, .int .i64 0, .int .u32 0] 61) #[.int .i64 1, .int .i64 mode, .int .u32 time, .int .i64 data.size, .int .u32 0] 61).below hb1 (by simp)
    have hR := (blk_mid w (.cells #[.int .i64 1, .int .i64 mode, .int .u32 time, .string data] 57) #[.int .i64 0, .int .i64 0, .int .u32 0, .int .i64 0, .int .u32 0] 61 (.cells #[.int .i64 1, .int .i64 mode, .int .u32 time, .int .i64 data.size, .int .u32 0] 61)).below hb1 (by simp)
    have hbw : Below w.heap.size w w1 := ((((Below.refl _ _).alloc (Nat.le_refl _) _).alloc (by simp) _).alloc (by simp; omega) _).trans (hb1.mono (by simp; omega))
    have p0 := hP.cell 0
    have p1 := hP.cell 1
    have p2 := hP.cell 2
    have p3 := hP.cell 3
    have p4 := hP.cell 4
    have pf := hP.frozen 4
    have r0 := hR.cell 0
    have r1 := hR.cell 1
    have r2 := hR.cell 2
    have r3 := hR.cell 3
    have r4 := hR.cell 4
    have f0 := hR.frozen 0
    have f1 := hR.frozen 1
    have f2 := hR.frozen 2
    have f3 := hR.frozen 3
    have f4 := hR.frozen 4
    simp at p0 p1 p2 p3 p4 r0 r1 r2 r3 r4
    have HP := Lib.hid hP; clear hP
    have HR := Lib.hid hR; clear hR
    go_wp2_with fail
    refine bodyPost_ret (results_cell_row rfl _ _ (w.heap.size + 1) 61 #[.int .i64 1, .int .i64 mode, .int .u32 time, .int .i64 data.size, .int .u32 sm] (0, 0) _ rfl ((((((HR.out.far (p := ⟨w.heap.size + 1 + 1, 4, none⟩) (by simp) _).put 0 (.int .i64 1)).put 1 (.int .i64 mode)).put 2 (.int .u32 time)).put 3 (.int .i64 data.size)).put 4 (.int .u32 sm)) Tryz.underlying61 rfl (by kernel_rfl)) rfl ⟨rfl, ?_⟩
    exact (((((hbw.setCell (by simp; omega) _).setCell (by simp) _).setCell (by simp) _).setCell (by simp) _).setCell (by simp) _).setCell (by simp) _
  · rw [if_neg hk]
    have hkb : (kind == 1) = false := by rw [beq_eq_false_iff_ne]; exact hk
    go_enter Tryz.func104, Tryz.ntmps104
    go_wp2_with fail
    exact bodyPost_ret (results_cell_row rfl _ _ (w.heap.size + 1) 61 #[.int .i64 kind, .int .i64 mode, .int .u32 time, .int .i64 data.size, .int .u32 0] (0, 0) _ rfl (blk_mid w _ _ _ _) Tryz.underlying61 rfl (by kernel_rfl)) rfl ⟨rfl, (((Below.refl _ _).alloc (Nat.le_refl _) _).alloc (by simp) _).alloc (by simp; omega) _⟩
end Go.Proofs.YtnpehjgnplaabaaGreatDoor
/- Arguments that are prints and nodes, opened. -/
set_option linter.unusedVariables false
namespace Go.Proofs.YtnpehjgnplaabaaGreatDoor
open Go Go.ChangeShapes Go.WideShapes Go.ChangeAt Go.RowKit
open Sw
/-- a print's numbers are what their types hold -/
def _root_.Sw.Pr.In (p : Pr) : Prop := (-9223372036854775808 ≤ p.kind ∧ p.kind ≤ 9223372036854775807) ∧ (-9223372036854775808 ≤ p.mode ∧ p.mode ≤ 9223372036854775807) ∧ (0 ≤ p.time ∧ p.time < 4294967296) ∧ (-9223372036854775808 ≤ p.size ∧ p.size ≤ 9223372036854775807) ∧ (0 ≤ p.sum ∧ p.sum < 4294967296)
def _root_.Sw.Nd.In (n : Nd) : Prop := (-9223372036854775808 ≤ n.kind ∧ n.kind ≤ 9223372036854775807) ∧ (-9223372036854775808 ≤ n.mode ∧ n.mode ≤ 9223372036854775807) ∧ (0 ≤ n.time ∧ n.time < 4294967296) ∧ n.data.size ≤ maxLen
end Go.Proofs.YtnpehjgnplaabaaGreatDoor
/- Two stretches of a row exchanged: plain. -/
set_option linter.unusedVariables false
set_option linter.unusedSimpArgs false
namespace Sw
/-- two stretches of i exchanged -/
def swL {β : Type} (l : List β) (a b i : Nat) : List β := l.mapIdx fun m x => if a ≤ m ∧ m < a + i then (l[b + (m - a)]?).getD x else if b ≤ m ∧ m < b + i then (l[a + (m - b)]?).getD x else x
section
variable {β : Type}
theorem swL_len (l : List β) (a b i : Nat) : (swL l a b i).length = l.length := by simp [swL]
theorem swL_get (l : List β) (a b i m : Nat) (hab : a + i ≤ b) (hb : b + i ≤ l.length) (h : m < l.length) : (swL l a b i)[m]'(by rw [swL_len]; exact h) = if h1 : a ≤ m ∧ m < a + i then l[b + (m - a)]'(by omega) else if h2 : b ≤ m ∧ m < b + i then l[a + (m - b)]'(by omega) else l[m] := by
  simp only [swL, List.getElem_mapIdx]
  split
  · rw [List.getElem?_eq_getElem (by omega)]; rfl
  · split
    · rw [List.getElem?_eq_getElem (by omega)]; rfl
    · rfl
theorem swL_zero (l : List β) (a b : Nat) : swL l a b 0 = l := by
  apply List.ext_getElem
  · exact swL_len l a b 0
  · intro m h1 h2
    simp only [swL, List.getElem_mapIdx]
    rw [if_neg (by omega), if_neg (by omega)]
theorem swL_step (l : List β) (a b i : Nat) (hab : a + i < b) (hb : b + i < l.length) :
    swL l a b (i + 1) = ((swL l a b i).set (a + i) ((swL l a b i)[b + i]'(by rw [swL_len]; exact hb))).set (b + i) ((swL l a b i)[a + i]'(by rw [swL_len]; omega)) := by
  apply List.ext_getElem
  · simp [swL_len]
  · intro m h1 h2
    have h3 : m < l.length := by rw [swL_len] at h1; exact h1
    rw [swL_get l a b (i + 1) m (by omega) (by omega) h3, List.getElem_set, List.getElem_set]
    simp only [swL_get l a b i (b + i) (by omega) (by omega) hb, swL_get l a b i (a + i) (by omega) (by omega) (by omega), swL_get l a b i m (by omega) (by omega) h3]
    by_cases e1 : b + i = m
    · subst e1
      rw [dif_neg (by omega), dif_pos (by omega), if_pos rfl, dif_neg (by omega), dif_neg (by omega)]
      congr 1; omega
    · rw [if_neg e1]
      by_cases e2 : a + i = m
      · subst e2
        rw [dif_pos (by omega), if_pos rfl, dif_neg (by omega), dif_neg (by omega)]
        congr 1; omega
      · rw [if_neg e2]
        by_cases e3 : a ≤ m ∧ m < a + i
        · rw [dif_pos (by omega), dif_pos e3]
        · rw [dif_neg (by omega), dif_neg e3]
          by_cases e4 : b ≤ m ∧ m < b + i
          · rw [dif_pos (by omega), dif_pos e4]
          · rw [dif_neg (by omega), dif_neg e4]
theorem swL_end (P X M Y Q : List β) (h : X.length = Y.length) : swL (P ++ X ++ M ++ Y ++ Q) P.length (P.length + X.length + M.length) X.length = P ++ Y ++ M ++ X ++ Q := by
  apply List.ext_getElem
  · simp only [swL_len, List.length_append]; omega
  · intro m h1 h2
    have h3 : m < (P ++ X ++ M ++ Y ++ Q).length := by rw [swL_len] at h1; exact h1
    rw [swL_get _ _ _ _ m (by omega) (by simp only [List.length_append]; omega) h3]
    simp only [List.length_append] at h3
    split
    · rename_i e
      simp only [List.getElem_append, List.length_append]
      repeat' split
      all_goals first | omega | (congr 1; omega)
    · split
      · rename_i e1 e
        simp only [List.getElem_append, List.length_append]
        repeat' split
        all_goals first | omega | (congr 1; omega)
      · rename_i e1 e2
        simp only [List.getElem_append, List.length_append]
        repeat' split
        all_goals first | omega | (congr 1; omega) | rfl
end
end Sw

/- The parts of slices.SortStableFunc at rows of api.Mark: two stretches exchanged; a stretch turned about. -/
set_option linter.unusedVariables false
set_option linter.unusedSimpArgs false
namespace Go.Proofs.YtnpehjgnplaabaaGreatDoor
open Go Go.RowKit
open Sw
def eCMK (e : { s : ByteArray // s.size ≤ 90000 } × Pr) : List Value := [.string e.1.1, .int .i64 e.2.kind, .int .i64 e.2.mode, .int .u32 e.2.time, .int .i64 e.2.size, .int .u32 e.2.sum]
theorem eCMK_len (e : { s : ByteArray // s.size ≤ 90000 } × Pr) : (eCMK e).length = 6 := rfl
set_option maxRecDepth 100000 in
set_option maxHeartbeats 4000000 in
theorem swapRangeMK_any (w : World) (base : Nat) (v cv : Value) (n a b k : Nat) (l : List ({ s : ByteArray // s.size ≤ 90000 } × Pr)) (hl : l.length = n) (hn : n ≤ 1000000) (hab : a + k ≤ b) (hbk : b + k ≤ n) (hown : w.ownsRow base 63 6 v n (l.flatMap eCMK)) :
    Calls Tryz.prog 230 #[v, .int .i64 a, .int .i64 b, .int .i64 k, cv] w fun e w' => e = .returned (.tuple #[]) ∧ w'.ownsRow base 63 6 v n ((swL l a b k).flatMap eCMK) ∧ w.grownBy w' v.ownBlock := by
  have HO := Lib.hid hown
  have HL := Lib.hid hl; clear hl
  obtain ⟨A, c, rfl, hc1, hc2, _⟩ := SlV_of_any hown
  clear hown
  go_enter Tryz.func230, Tryz.ntmps230
  go_wp2_with fail
  go_loopw [10] (fun iv wr => ∃ i : Nat, iv = .int .i64 i ∧ i ≤ k ∧ wr.ownsRow base 63 6 (.slice A n c) n ((swL l a b i).flatMap eCMK) ∧ w.grownBy wr (Value.slice A n c).ownBlock) (fun iv _ => k - (intOf iv).toNat)
  case atStart => exact ⟨0, rfl, Nat.zero_le _, by rw [swL_zero]; exact HO.out, grown_refl _ _⟩
  case round =>
    obtain ⟨i0, rfl, hik, ho, hg⟩ := hrel
    have hrl := swL_len l a b i0
    have HR := Lib.hid (And.intro ho hg); clear ho hg
    by_cases hlt : i0 < k
    · have hi1 : (i0 : Int) < k := by omega
      obtain ⟨i, hi⟩ : ∃ i : Nat, (a : Int) + i0 = i := ⟨a + i0, by omega⟩
      obtain ⟨j, hj⟩ : ∃ j : Nat, (b : Int) + i0 = j := ⟨b + i0, by omega⟩
      have hiE : i = a + i0 := by omega
      have hjE : j = b + i0 := by omega
      have hin : i < n := by omega
      have hjn : j < n := by omega
      obtain ⟨g, cap, cur, hA, hbg, hB, hnc, hcm, hcs, htk⟩ := own_form HR.out.1 (by omega)
      obtain ⟨rfl, rfl⟩ : A = some ⟨g, 0, none⟩ ∧ c = cap := by injection hA with e1 e2 e3; exact ⟨e1, e3⟩
      have hcell := fun (m : Nat) (hm : m < n) (q : Nat) (hq : q < 6) => (by
        have hm' : m < (swL l a b i0).length := by rw [hrl, HL.out]; exact hm
        have h1 := flat_get eCMK_len (swL l a b i0) m hm' q hq
        have h2 : m * 6 + q < n * 6 := by have : (m + 1) * 6 ≤ n * 6 := Nat.mul_le_mul_right _ hm; omega
        rw [hB.cell, ← Array.getElem?_toList, ← h1, ← htk, List.getElem?_take, if_pos h2] : wr.cell? ⟨g, m * 6 + q, none⟩ = (eCMK ((swL l a b i0)[m]'(by rw [hrl, HL.out]; exact hm)))[q]?)
      have hjl : j < (swL l a b i0).length := by rw [hrl, HL.out]; exact hjn
      have hil : i < (swL l a b i0).length := by rw [hrl, HL.out]; exact hin
      have hstep : swL l a b (i0 + 1) = ((swL l a b i0).set i (swL l a b i0)[j]).set j (swL l a b i0)[i] := by
        have := swL_step l a b i0 (by omega) (by have := HL.out; omega)
        simp only [← hiE, ← hjE] at this
        exact this
      obtain ⟨x, hx⟩ : ∃ x, (swL l a b i0)[i] = x := ⟨_, rfl⟩
      obtain ⟨y, hy⟩ : ∃ y, (swL l a b i0)[j] = y := ⟨_, rfl⟩
      have hci := hcell i hin
      have hcj := hcell j hjn
      simp only [hx] at hci
      simp only [hy] at hcj
      rw [hx, hy] at hstep
      have a0 : wr.cell? ⟨g, i * 6, none⟩ = _ := hci 0 (by omega)
      have a1 : wr.cell? ⟨g, i * 6 + 1, none⟩ = _ := hci 1 (by omega)
      have a2 : wr.cell? ⟨g, i * 6 + 2, none⟩ = _ := hci 2 (by omega)
      have a3 : wr.cell? ⟨g, i * 6 + 3, none⟩ = _ := hci 3 (by omega)
      have a4 : wr.cell? ⟨g, i * 6 + 4, none⟩ = _ := hci 4 (by omega)
      have a5 : wr.cell? ⟨g, i * 6 + 5, none⟩ = _ := hci 5 (by omega)
      simp only [eCMK, List.getElem?_cons_succ, List.getElem?_cons_zero] at a0 a1 a2 a3 a4 a5
      have b0 : wr.cell? ⟨g, j * 6, none⟩ = _ := hcj 0 (by omega)
      have b1 : wr.cell? ⟨g, j * 6 + 1, none⟩ = _ := hcj 1 (by omega)
      have b2 : wr.cell? ⟨g, j * 6 + 2, none⟩ = _ := hcj 2 (by omega)
      have b3 : wr.cell? ⟨g, j * 6 + 3, none⟩ = _ := hcj 3 (by omega)
      have b4 : wr.cell? ⟨g, j * 6 + 4, none⟩ = _ := hcj 4 (by omega)
      have b5 : wr.cell? ⟨g, j * 6 + 5, none⟩ = _ := hcj 5 (by omega)
      simp only [eCMK, List.getElem?_cons_succ, List.getElem?_cons_zero] at b0 b1 b2 b3 b4 b5
      have fa0 := hB.frozen (i * 6)
      have fa1 := hB.frozen (i * 6 + 1)
      have fa2 := hB.frozen (i * 6 + 2)
      have fa3 := hB.frozen (i * 6 + 3)
      have fa4 := hB.frozen (i * 6 + 4)
      have fa5 := hB.frozen (i * 6 + 5)
      have fb0 := hB.frozen (j * 6)
      have fb1 := hB.frozen (j * 6 + 1)
      have fb2 := hB.frozen (j * 6 + 2)
      have fb3 := hB.frozen (j * 6 + 3)
      have fb4 := hB.frozen (j * 6 + 4)
      have fb5 := hB.frozen (j * 6 + 5)
      have HST := Lib.hid (by
        have h1 := own_setCells (eCMK y) (i * 6) wr _ HR.out.1 (by rw [eCMK_len]; omega)
        have f1 := flat_put eCMK_len (swL l a b i0) i hil y 0 (eCMK y) (by rw [eCMK_len]; omega) (by simp [eCMK_len])
        simp only [Nat.add_zero] at f1
        rw [f1] at h1
        have h2 := own_setCells (eCMK x) (j * 6) _ _ h1 (by rw [eCMK_len]; omega)
        have f2 := flat_put eCMK_len ((swL l a b i0).set i y) j (by rw [List.length_set]; exact hjl) x 0 (eCMK x) (by rw [eCMK_len]; omega) (by simp [eCMK_len])
        simp only [Nat.add_zero] at f2
        rw [f2, ← hstep] at h2
        exact And.intro h2 (grown_setCells (eCMK x) (j * 6) _ (grown_setCells (eCMK y) (i * 6) wr HR.out.2)))
      clear hcell hci hcj hstep hx hy hB htk hcs hiE hjE
      have q1 : (j : Int) < n := by omega
      have q2 : (i : Int) < n := by omega
      have q3 : i ≠ j := by omega
      have w1 : IntKind.i64.wrap ((i0 : Int) + 1) = i0 + 1 := IntWalk.i64_in _ (by omega)
      go_wp2_with fail
      go_region
      all_goals
        go_wp2_with fail
        go_roundw
        case rel => exact ⟨i0 + 1, by go_num, by omega, own_drew HST.out.1, grown_drew HST.out.2⟩
        case measure => simp [intOf]; omega
    · obtain rfl : i0 = k := by omega
      go_wp2_with fail
      go_end0
      exact ⟨rfl, HR.out.1, HR.out.2⟩
end Go.Proofs.YtnpehjgnplaabaaGreatDoor
