/- Contracts of dos.Parse and of the reference's Text. -/
import Derived.Test.YthmlfeaoaanmoaaDosParsePlain
import Derived.Test.YthmlfeaoaanmoaaDosRef
import Derived.Test.YthmlfeaoaanmoaaGrow
set_option linter.unusedVariables false
namespace Go.Proofs.Ythmlfeaoaanmoaa
open Go.RowKit
open Sw
set_option maxRecDepth 100000 in
set_option maxHeartbeats 1000000 in
theorem number_any (w : World) (g : Nat) (s : ByteArray) (f t : Nat) (hft : f ≤ t) (ht : t ≤ s.size) (hs : s.size = 19) (h4 : t - f ≤ 4) (hc : w.cell? ⟨g, 0, none⟩ = some (.string s)) :
    Calls Try.prog 57 #[.int .i64 f, .int .i64 t, .pointer (some ⟨g, 0, none⟩)] w fun e w' => e = .returned (.int .i64 (numI (s.extract f t).data.toList)) ∧ Below w.heap.size w w' := by
  obtain ⟨cap, w2, hcv, hb2, hsz2, hat⟩ := run_bytes (P := Try.prog) w 9 76 5 (s.extract f t) Try.underlying9 Try.underlying76 Try.underlying5
  have hlen : (s.extract f t).size = t - f := by rw [ByteArray.size_extract]; omega
  have hll : (s.extract f t).data.toList.length = t - f := by rw [Array.length_toList, ByteArray.size_data, hlen]
  rw [hlen] at hcv
  have hat' : BytesAt w2 w.heap.size (s.extract f t).data.toList := hat
  clear hat
  have HAT := Lib.hid hat'; clear hat'
  generalize hL : (s.extract f t).data.toList = L at *
  clear hL hlen
  go_enter Try.func57, Try.ntmps57
  go_wp2_with fail
  go_loop [5, 7, 14] (fun x _ i => ∃ k : Nat, k ≤ t - f ∧ i = .int .i64 k ∧ x = .int .i64 (numI (L.take k))) (fun _ _ i => t - f - (intOf i).toNat)
  case atStart => exact ⟨0, Nat.zero_le _, rfl, rfl⟩
  case round =>
    obtain ⟨k, hk, rfl, rfl⟩ := hrel
    by_cases hlt : k < t - f
    · have hkl : k < L.length := by omega
      have hcell := (HAT.out k hkl).1
      have hx := numI_bound (L.take k) (by rw [List.length_take]; omega)
      have hsn := numI_snoc (L.take k) L[k]
      rw [← List.take_succ_eq_append_getElem hkl] at hsn
      have HSN := Lib.hid hsn; clear hsn
      have hbt := L[k].toNat_lt
      generalize numI (L.take k) = x at *
      generalize L[k] = b at *
      go_wp2_with fail
      exact ⟨⟨k + 1, by omega, by go_num, by rw [HSN.out]⟩, by simp [intOf]; omega⟩
    · obtain rfl : k = t - f := by omega
      have hr : L.take (t - f) = L := List.take_of_length_le (by omega)
      have HR := Lib.hid hr; clear hr
      go_wp2_with fail
      go_ret
      rw [HR.out]
      exact ⟨rfl, hb2⟩
theorem bytes_beq_self (s : ByteArray) : (s == s) = true := by
  cases s with
  | mk d =>
    show (d == d) = true
    simp
theorem bytes_beq_eq {s t : ByteArray} (h : (s == t) = true) : s = t := by
  cases s
  cases t
  rename_i a b
  have h2 : (a == b) = true := h
  simpa using h2
theorem bytes_beq_ne {s t : ByteArray} (h : s ≠ t) : (s == t) = false := by
  cases hb : (s == t) with
  | false => rfl
  | true => exact absurd (bytes_beq_eq hb) h
theorem bytes_bne_self (s : ByteArray) : (s != s) = false := by
  show (!(s == s)) = false
  rw [bytes_beq_self]; rfl
theorem bytes_bne_ne {s t : ByteArray} (h : s ≠ t) : (s != t) = true := by
  show (!(s == t)) = true
  cases hb : (s == t) with
  | false => rfl
  | true => exact absurd (bytes_beq_eq hb) h
theorem parse_short (w : World) (s : ByteArray) (hs : s.size ≠ 19) (hm : s.size ≤ maxLen) :
    Calls Try.prog 25 #[.string s] w fun e w' => e = .returned (.tuple #[.int .u32 0, .bool false]) ∧ Below w.heap.size w w' := by
  have ht : ((s.size : Int) != 19) = true := by simp; omega
  unfold maxLen at hm
  go_enter Try.func25, Try.ntmps25
  go_wp2_with fail
  go_ret2
  exact ⟨rfl, (Below.refl w.heap.size w).alloc (Nat.le_refl _) _⟩
/-- the text lies in its box -/
def BoxAt (w : World) (s : ByteArray) (W : World) : Prop := Blk W w.heap.size 9 #[.string s] ∧ Below w.heap.size w W
theorem BoxAt.keep {w : World} {s : ByteArray} (W W' : World) (h : BoxAt w s W) (hb : Below W.heap.size W W') : BoxAt w s W' := ⟨h.1.below hb h.1.lt, h.2.trans (hb.mono h.2.size)⟩
set_option maxRecDepth 100000 in
set_option maxHeartbeats 4000000 in
theorem parse_any (w : World) (s : ByteArray) (hs : s.size = 19) :
    Calls Try.prog 25 #[.string s] w fun e w' => ((parseOk s ∧ e = .returned (.tuple #[.int .u32 (ofD (partsOf s)), .bool true])) ∨ (¬ parseOk s ∧ e = .returned (.tuple #[.int .u32 0, .bool false]))) ∧ Below w.heap.size w w' := by
  have hin := partsOf_in s
  have N0 := fun W (h : BoxAt w s W) => number_any W w.heap.size s 0 4 (by omega) (by omega) hs (by omega) (h.1.cell 0)
  have N1 := fun W (h : BoxAt w s W) => number_any W w.heap.size s 5 7 (by omega) (by omega) hs (by omega) (h.1.cell 0)
  have N2 := fun W (h : BoxAt w s W) => number_any W w.heap.size s 8 10 (by omega) (by omega) hs (by omega) (h.1.cell 0)
  have N3 := fun W (h : BoxAt w s W) => number_any W w.heap.size s 11 13 (by omega) (by omega) hs (by omega) (h.1.cell 0)
  have N4 := fun W (h : BoxAt w s W) => number_any W w.heap.size s 14 16 (by omega) (by omega) hs (by omega) (h.1.cell 0)
  have N5 := fun W (h : BoxAt w s W) => number_any W w.heap.size s 17 19 (by omega) (by omega) hs (by omega) (h.1.cell 0)
  have hp : partsOf s = ⟨numI (s.extract 0 4).data.toList, numI (s.extract 5 7).data.toList, numI (s.extract 8 10).data.toList, numI (s.extract 11 13).data.toList, numI (s.extract 14 16).data.toList, numI (s.extract 17 19).data.toList⟩ := rfl
  have hpo : parseOk s = (s.size = 19 ∧ (partsOf s).Ok ∧ textD (partsOf s) = s) := rfl
  generalize numI (s.extract 0 4).data.toList = a0 at *
  generalize numI (s.extract 5 7).data.toList = a1 at *
  generalize numI (s.extract 8 10).data.toList = a2 at *
  generalize numI (s.extract 11 13).data.toList = a3 at *
  generalize numI (s.extract 14 16).data.toList = a4 at *
  generalize numI (s.extract 17 19).data.toList = a5 at *
  rw [hp] at hin hpo ⊢
  clear hp
  generalize hq : (⟨a0, a1, a2, a3, a4, a5⟩ : Dt) = x at *
  have hv : Dt.v x = #[.int .i64 a0, .int .i64 a1, .int .i64 a2, .int .i64 a3, .int .i64 a4, .int .i64 a5] := by rw [← hq]; rfl
  have B0 : BoxAt w s (w.alloc (Obj.cells #[.string s] 9)) := ⟨Blk.new _ _ _, (Below.refl _ _).alloc (Nat.le_refl _) _⟩
  have HN0 := Lib.hid N0; clear N0
  have HN1 := Lib.hid N1; clear N1
  have HN2 := Lib.hid N2; clear N2
  have HN3 := Lib.hid N3; clear N3
  have HN4 := Lib.hid N4; clear N4
  have HN5 := Lib.hid N5; clear N5
  have HPO := Lib.hid hpo; clear hpo
  by_cases hok : x.Ok
  · have hof := fun W => dosOf_any W x hin hok
    have htx := fun W => text_any W (ofD x) (ofD_lt hok).1 (ofD_lt hok).2
    rw [splitD_ofD hok] at htx
    unfold textOr at htx
    simp only [if_pos hok] at htx
    rw [hv] at hof
    have HOF := Lib.hid hof; clear hof
    have HTX := Lib.hid htx; clear htx
    by_cases heq : textD x = s
    · have HP := Lib.hid (show parseOk s by rw [HPO.out]; exact ⟨hs, hok, heq⟩)
      have hte : ((textD x).toList == s.toList) = true := by rw [heq]; simp
      clear hok heq
      generalize textD x = tx at *
      go_enter Try.func25, Try.ntmps25
      go_wp2_with fail
      refine (HN0.out _ B0).mono ?_
      rintro e w1 ⟨rfl, hb1⟩
      have B1 := BoxAt.keep _ _ B0 hb1
      go_wp2_with fail
      refine (HN1.out _ B1).mono ?_
      rintro e w2 ⟨rfl, hb2⟩
      have B2 := BoxAt.keep _ _ B1 hb2
      go_wp2_with fail
      refine (HN2.out _ B2).mono ?_
      rintro e w3 ⟨rfl, hb3⟩
      have B3 := BoxAt.keep _ _ B2 hb3
      go_wp2_with fail
      refine (HN3.out _ B3).mono ?_
      rintro e w4 ⟨rfl, hb4⟩
      have B4 := BoxAt.keep _ _ B3 hb4
      go_wp2_with fail
      refine (HN4.out _ B4).mono ?_
      rintro e w5 ⟨rfl, hb5⟩
      have B5 := BoxAt.keep _ _ B4 hb5
      go_wp2_with fail
      refine (HN5.out _ B5).mono ?_
      rintro e w6 ⟨rfl, hb6⟩
      have B6 := BoxAt.keep _ _ B5 hb6
      go_wp2_with fail
      refine (HOF.out _).mono ?_
      rintro e w7 ⟨rfl, hb7⟩
      have B7 := BoxAt.keep _ _ B6 hb7
      clear hb1 hb2 hb3 hb4 hb5 hb6 hb7 B0 B1 B2 B3 B4 B5 B6
      have B8 : BoxAt w s w7.drew := ⟨B7.1, B7.2.drew⟩
      haveI : Nonempty (Held (BoxAt w s)) := held_some B8
      have qb : ∀ n : Held (BoxAt w s), (HeldW n).cell? ⟨w.heap.size, 0, none⟩ = some (.string s) := fun n => (HeldW_spec n).1.cell 0
      have HB8 := Lib.hid B8; clear B8 B7
      go_wp2_with fail
      refine wp_region_class (BoxAt w s) (by kernel_rfl) (by kernel_rfl) HB8.out ?_
      repeat (go_big_quiet_step (with_reducible exact held_below BoxAt.keep (HTX.out _)))
      refine wpQuiet_nil ?_
      rintro _ ⟨n, rfl⟩
      go_wp2_with fail
      go_ret2
      exact ⟨.inl ⟨HP.out, by first | rfl | simp⟩, (HeldW_spec n).2⟩
    · have HP := Lib.hid (show ¬ parseOk s by rw [HPO.out]; exact fun h => heq h.2.2)
      have hte : ((textD x).toList == s.toList) = false := by rw [← Go.beq_toListBytes]; exact bytes_beq_ne heq
      clear hok heq
      generalize textD x = tx at *
      go_enter Try.func25, Try.ntmps25
      go_wp2_with fail
      refine (HN0.out _ B0).mono ?_
      rintro e w1 ⟨rfl, hb1⟩
      have B1 := BoxAt.keep _ _ B0 hb1
      go_wp2_with fail
      refine (HN1.out _ B1).mono ?_
      rintro e w2 ⟨rfl, hb2⟩
      have B2 := BoxAt.keep _ _ B1 hb2
      go_wp2_with fail
      refine (HN2.out _ B2).mono ?_
      rintro e w3 ⟨rfl, hb3⟩
      have B3 := BoxAt.keep _ _ B2 hb3
      go_wp2_with fail
      refine (HN3.out _ B3).mono ?_
      rintro e w4 ⟨rfl, hb4⟩
      have B4 := BoxAt.keep _ _ B3 hb4
      go_wp2_with fail
      refine (HN4.out _ B4).mono ?_
      rintro e w5 ⟨rfl, hb5⟩
      have B5 := BoxAt.keep _ _ B4 hb5
      go_wp2_with fail
      refine (HN5.out _ B5).mono ?_
      rintro e w6 ⟨rfl, hb6⟩
      have B6 := BoxAt.keep _ _ B5 hb6
      go_wp2_with fail
      refine (HOF.out _).mono ?_
      rintro e w7 ⟨rfl, hb7⟩
      have B7 := BoxAt.keep _ _ B6 hb7
      clear hb1 hb2 hb3 hb4 hb5 hb6 hb7 B0 B1 B2 B3 B4 B5 B6
      have B8 : BoxAt w s w7.drew := ⟨B7.1, B7.2.drew⟩
      haveI : Nonempty (Held (BoxAt w s)) := held_some B8
      have qb : ∀ n : Held (BoxAt w s), (HeldW n).cell? ⟨w.heap.size, 0, none⟩ = some (.string s) := fun n => (HeldW_spec n).1.cell 0
      have HB8 := Lib.hid B8; clear B8 B7
      go_wp2_with fail
      refine wp_region_class (BoxAt w s) (by kernel_rfl) (by kernel_rfl) HB8.out ?_
      repeat (go_big_quiet_step (with_reducible exact held_below BoxAt.keep (HTX.out _)))
      refine wpQuiet_nil ?_
      rintro _ ⟨n, rfl⟩
      go_wp2_with fail
      go_ret2
      exact ⟨.inr ⟨HP.out, by first | rfl | simp⟩, (HeldW_spec n).2⟩
  · have hof := fun W => dosOf_bad W x hin hok
    rw [hv] at hof
    have HOF := Lib.hid hof; clear hof
    have HP := Lib.hid (show ¬ parseOk s by rw [HPO.out]; exact fun h => hok h.2.1)
    clear hok
    go_enter Try.func25, Try.ntmps25
    go_wp2_with fail
    refine (HN0.out _ B0).mono ?_
    rintro e w1 ⟨rfl, hb1⟩
    have B1 := BoxAt.keep _ _ B0 hb1
    go_wp2_with fail
    refine (HN1.out _ B1).mono ?_
    rintro e w2 ⟨rfl, hb2⟩
    have B2 := BoxAt.keep _ _ B1 hb2
    go_wp2_with fail
    refine (HN2.out _ B2).mono ?_
    rintro e w3 ⟨rfl, hb3⟩
    have B3 := BoxAt.keep _ _ B2 hb3
    go_wp2_with fail
    refine (HN3.out _ B3).mono ?_
    rintro e w4 ⟨rfl, hb4⟩
    have B4 := BoxAt.keep _ _ B3 hb4
    go_wp2_with fail
    refine (HN4.out _ B4).mono ?_
    rintro e w5 ⟨rfl, hb5⟩
    have B5 := BoxAt.keep _ _ B4 hb5
    go_wp2_with fail
    refine (HN5.out _ B5).mono ?_
    rintro e w6 ⟨rfl, hb6⟩
    have B6 := BoxAt.keep _ _ B5 hb6
    go_wp2_with fail
    refine (HOF.out _).mono ?_
    rintro e w7 ⟨rfl, hb7⟩
    have B7 := BoxAt.keep _ _ B6 hb7
    clear hb1 hb2 hb3 hb4 hb5 hb6 hb7 B0 B1 B2 B3 B4 B5 B6
    have B8 : BoxAt w s w7.drew := ⟨B7.1, B7.2.drew⟩
    haveI : Nonempty (Held (BoxAt w s)) := held_some B8
    have qb : ∀ n : Held (BoxAt w s), (HeldW n).cell? ⟨w.heap.size, 0, none⟩ = some (.string s) := fun n => (HeldW_spec n).1.cell 0
    have HB8 := Lib.hid B8; clear B8 B7
    go_wp2_with fail
    refine wp_region_class (BoxAt w s) (by kernel_rfl) (by kernel_rfl) HB8.out ?_
    repeat (go_big_quiet_step (fail))
    refine wpQuiet_nil ?_
    rintro _ ⟨n, rfl⟩
    go_wp2_with fail
    go_ret2
    exact ⟨.inr ⟨HP.out, by first | rfl | simp⟩, (HeldW_spec n).2⟩
end Go.Proofs.Ythmlfeaoaanmoaa
