/- Several texts, joined for the limit of sixty files; each one opens with its own comment. -/
import Derived.Test.YtjcbjocgachpjaaGreatDoorJoin15
import Derived.Test.YtjcbjocgachpjaaGreatDoorJoin9
import Derived.Test.YtjcbjocgachpjaaGreatDoorJoin3
import Derived.Test.YtjcbjocgachpjaaGreatDoorJoin10
import Derived.Lib.SlBytesConst
/- Plain laws of layer 12: the numbers of a text, and the text of parts. -/
set_option linter.unusedVariables false
namespace Go.Proofs.YtjcbjocgachpjaaGreatDoor
open Sw
def numI (l : List UInt8) : Int := l.foldl (fun n b => 10 * n + (b.toNat : Int) - 48) 0
theorem numI_snoc (l : List UInt8) (b : UInt8) : numI (l ++ [b]) = 10 * numI l + (b.toNat : Int) - 48 := by
  simp [numI, List.foldl_append]
theorem numI_bound (l : List UInt8) (h : l.length ≤ 4) : -100000 ≤ numI l ∧ numI l ≤ 1000000 := by
  match l, h with
  | [], _ => simp [numI]
  | [a], _ => have := a.toNat_lt; simp [numI]; omega
  | [a, b], _ => have := a.toNat_lt; have := b.toNat_lt; simp [numI]; omega
  | [a, b, c], _ => have := a.toNat_lt; have := b.toNat_lt; have := c.toNat_lt; simp [numI]; omega
  | [a, b, c, d], _ => have := a.toNat_lt; have := b.toNat_lt; have := c.toNat_lt; have := d.toNat_lt; simp [numI]; omega
theorem digit_toNat (n : Nat) : (UInt8.ofNat (48 + n % 10)).toNat = 48 + n % 10 := by
  have := Nat.mod_lt n (show 0 < 10 by omega)
  simp
  omega
theorem numI_two (n : Nat) (h : n < 100) : numI (digL n 2) = n := by
  simp only [digL, numI, List.foldl_cons, List.foldl_nil, digit_toNat]
  simp
  omega
theorem numI_four (n : Nat) (h : n < 10000) : numI (digL n 4) = n := by
  simp only [digL, numI, List.foldl_cons, List.foldl_nil, digit_toNat]
  simp
  omega
theorem dig_list (n : Int) (k : Nat) : (dig n k).data.toList = digL n.toNat k := rfl
theorem textD_list (x : Dt) : (textD x).data.toList = digL x.y.toNat 4 ++ [45] ++ digL x.m.toNat 2 ++ [45] ++ digL x.d.toNat 2 ++ [32] ++ digL x.h.toNat 2 ++ [58] ++ digL x.mi.toNat 2 ++ [58] ++ digL x.s.toNat 2 := by
  unfold textD
  simp only [ByteArray.data_append, Array.toList_append, dig_list]
theorem textD_size (x : Dt) : (textD x).size = 19 := by
  rw [← ByteArray.size_data, ← Array.length_toList, textD_list]
  simp [digL_length]
/-- the numbers at the places of a text -/
def partsOf (s : ByteArray) : Dt := ⟨numI (s.extract 0 4).data.toList, numI (s.extract 5 7).data.toList, numI (s.extract 8 10).data.toList, numI (s.extract 11 13).data.toList, numI (s.extract 14 16).data.toList, numI (s.extract 17 19).data.toList⟩
theorem extract_list (s : ByteArray) (a b : Nat) : (s.extract a b).data.toList = (s.data.toList.drop a).take (b - a) := by
  simp [List.take_drop]
theorem partsOf_textD (x : Dt) (h : x.Ok) : partsOf (textD x) = x := by
  have hy := h.year
  unfold Dt.Ok at h
  have l4 := digL_length x.y.toNat 4
  have lm := digL_length x.m.toNat 2
  have ld := digL_length x.d.toNat 2
  have lh := digL_length x.h.toNat 2
  have li := digL_length x.mi.toNat 2
  have ls := digL_length x.s.toNat 2
  have ny := numI_four x.y.toNat (by omega)
  have nm := numI_two x.m.toNat (by omega)
  have nd := numI_two x.d.toNat (by omega)
  have nh := numI_two x.h.toNat (by omega)
  have ni := numI_two x.mi.toNat (by omega)
  have ns := numI_two x.s.toNat (by omega)
  unfold partsOf
  simp only [extract_list, textD_list]
  generalize digL x.y.toNat 4 = Y at *
  generalize digL x.m.toNat 2 = M at *
  generalize digL x.d.toNat 2 = D at *
  generalize digL x.h.toNat 2 = H at *
  generalize digL x.mi.toNat 2 = I at *
  generalize digL x.s.toNat 2 = S at *
  match Y, M, D, H, I, S, l4, lm, ld, lh, li, ls with
  | [a, b, c, d], [e, f], [g, i], [j, k], [l, m], [n, o], _, _, _, _, _, _ =>
    cases x
    simp only [Dt.mk.injEq] at *
    refine ⟨?_, ?_, ?_, ?_, ?_, ?_⟩
    · show numI [a, b, c, d] = _; rw [ny]; omega
    · show numI [e, f] = _; rw [nm]; omega
    · show numI [g, i] = _; rw [nd]; omega
    · show numI [j, k] = _; rw [nh]; omega
    · show numI [l, m] = _; rw [ni]; omega
    · show numI [n, o] = _; rw [ns]; omega
/-- what is parsed of a text -/
def parseOk (s : ByteArray) : Prop := s.size = 19 ∧ (partsOf s).Ok ∧ textD (partsOf s) = s
theorem parse_text (x : Dt) (h : x.Ok) : parseOk (textD x) := by
  refine ⟨textD_size x, ?_, ?_⟩
  · rw [partsOf_textD x h]; exact h
  · rw [partsOf_textD x h]
theorem partsOf_in (s : ByteArray) : Dt.In (partsOf s) := by
  have b (a c : Nat) (h : c - a ≤ 4) : -100000 ≤ numI (s.extract a c).data.toList ∧ numI (s.extract a c).data.toList ≤ 1000000 := numI_bound _ (by rw [extract_list, List.length_take]; omega)
  have b0 := b 0 4 (by omega)
  have b1 := b 5 7 (by omega)
  have b2 := b 8 10 (by omega)
  have b3 := b 11 13 (by omega)
  have b4 := b 14 16 (by omega)
  have b5 := b 17 19 (by omega)
  constructor <;> (simp only [partsOf]; omega)
end Go.Proofs.YtjcbjocgachpjaaGreatDoor
/- Contracts of dos.Parse and of the reference's Text. -/
set_option linter.unusedVariables false
namespace Go.Proofs.YtjcbjocgachpjaaGreatDoor
open Go.RowKit
open Sw
set_option maxRecDepth 100000 in
set_option maxHeartbeats 1000000 in
theorem number_any (w : World) (g : Nat) (s : ByteArray) (f t : Nat) (hft : f ≤ t) (ht : t ≤ s.size) (hs : s.size = 19) (h4 : t - f ≤ 4) (hc : w.cell? ⟨g, 0, none⟩ = some (.string s)) :
    Calls Tryz.prog 160 #[.int .i64 f, .int .i64 t, .pointer (some ⟨g, 0, none⟩)] w fun e w' => e = .returned (.int .i64 (numI (s.extract f t).data.toList)) ∧ Below w.heap.size w w' := by
  obtain ⟨cap, w2, hcv, hb2, hsz2, hat⟩ := run_bytes (P := Tryz.prog) w 9 63 5 (s.extract f t) Tryz.underlying9 Tryz.underlying63 Tryz.underlying5
  have hlen : (s.extract f t).size = t - f := by rw [ByteArray.size_extract]; omega
  have hll : (s.extract f t).data.toList.length = t - f := by rw [Array.length_toList, ByteArray.size_data, hlen]
  rw [hlen] at hcv
  have hat' : BytesAt w2 w.heap.size (s.extract f t).data.toList := hat
  clear hat
  have HAT := Lib.hid hat'; clear hat'
  generalize hL : (s.extract f t).data.toList = L at *
  clear hL hlen
  go_enter Tryz.func160, Tryz.ntmps160
  go_wp2_with fail
  go_loop [5, 7, 14] (fun x _ i => ∃ k : Nat, k ≤ t - f ∧ i = .int .i64 k ∧ x = .int .i64 (numI (L.take k))) (fun _ _ i => t - f - (intOf i).toNat)
  case atStart => exact ⟨0, Nat.zero_le _, rfl, rfl⟩
  case round =>
    obtain ⟨k, hk, rfl, rfl⟩ := hrel
    by_cases hlt : k < t - f
    · have hkl : k < L.length := by omega
      have hcell := (HAT.out k hkl).1
      have hx := numI_bound (L.take k) (by rw [List.length_take]; omega)
      have hsn := numI_snoc (L.take k) L[k]
      rw [← List.take_succ_eq_append_getElem hkl] at hsn
      have HSN := Lib.hid hsn; clear hsn
      have hbt := L[k].toNat_lt
      generalize numI (L.take k) = x at *
      generalize L[k] = b at *
      go_wp2_with fail
      exact ⟨⟨k + 1, by omega, by go_num, by rw [HSN.out]⟩, by simp [intOf]; omega⟩
    · obtain rfl : k = t - f := by omega
      have hr : L.take (t - f) = L := List.take_of_length_le (by omega)
      have HR := Lib.hid hr; clear hr
      go_wp2_with fail
      go_ret
      rw [HR.out]
      exact ⟨rfl, hb2⟩
theorem bytes_beq_self (s : ByteArray) : (s == s) = true := by
  cases s with
  | mk d =>
    show (d == d) = true
    simp
theorem bytes_beq_eq {s t : ByteArray} (h : (s == t) = true) : s = t := by
  cases s
  cases t
  rename_i a b
  have h2 : (a == b) = true := h
  simpa using h2
theorem bytes_beq_ne {s t : ByteArray} (h : s ≠ t) : (s == t) = false := by
  cases hb : (s == t) with
  | false => rfl
  | true => exact absurd (bytes_beq_eq hb) h
theorem bytes_bne_self (s : ByteArray) : (s != s) = false := by
  show (!(s == s)) = false
  rw [bytes_beq_self]; rfl
/-- the text lies in its box -/
def BoxAt (w : World) (s : ByteArray) (W : World) : Prop := Blk W w.heap.size 9 #[.string s] ∧ Below w.heap.size w W
theorem BoxAt.keep {w : World} {s : ByteArray} (W W' : World) (h : BoxAt w s W) (hb : Below W.heap.size W W') : BoxAt w s W' := ⟨h.1.below hb h.1.lt, h.2.trans (hb.mono h.2.size)⟩
set_option maxRecDepth 100000 in
set_option maxHeartbeats 4000000 in
theorem parse_any (w : World) (s : ByteArray) (hs : s.size = 19) :
    Calls Tryz.prog 135 #[.string s] w fun e w' => ((parseOk s ∧ e = .returned (.tuple #[.int .u32 (ofD (partsOf s)), .bool true])) ∨ (¬ parseOk s ∧ e = .returned (.tuple #[.int .u32 0, .bool false]))) ∧ Below w.heap.size w w' := by
  have hin := partsOf_in s
  have N0 := fun W (h : BoxAt w s W) => number_any W w.heap.size s 0 4 (by omega) (by omega) hs (by omega) (h.1.cell 0)
  have N1 := fun W (h : BoxAt w s W) => number_any W w.heap.size s 5 7 (by omega) (by omega) hs (by omega) (h.1.cell 0)
  have N2 := fun W (h : BoxAt w s W) => number_any W w.heap.size s 8 10 (by omega) (by omega) hs (by omega) (h.1.cell 0)
  have N3 := fun W (h : BoxAt w s W) => number_any W w.heap.size s 11 13 (by omega) (by omega) hs (by omega) (h.1.cell 0)
  have N4 := fun W (h : BoxAt w s W) => number_any W w.heap.size s 14 16 (by omega) (by omega) hs (by omega) (h.1.cell 0)
  have N5 := fun W (h : BoxAt w s W) => number_any W w.heap.size s 17 19 (by omega) (by omega) hs (by omega) (h.1.cell 0)
  have hp : partsOf s = ⟨numI (s.extract 0 4).data.toList, numI (s.extract 5 7).data.toList, numI (s.extract 8 10).data.toList, numI (s.extract 11 13).data.toList, numI (s.extract 14 16).data.toList, numI (s.extract 17 19).data.toList⟩ := rfl
  have hpo : parseOk s = (s.size = 19 ∧ (partsOf s).Ok ∧ textD (partsOf s) = s) := rfl
  generalize numI (s.extract 0 4).data.toList = a0 at *
  generalize numI (s.extract 5 7).data.toList = a1 at *
  generalize numI (s.extract 8 10).data.toList = a2 at *
  generalize numI (s.extract 11 13).data.toList = a3 at *
  generalize numI (s.extract 14 16).data.toList = a4 at *
  generalize numI (s.extract 17 19).data.toList = a5 at *
  rw [hp] at hin hpo ⊢
  clear hp
  generalize hq : (⟨a0, a1, a2, a3, a4, a5⟩ : Dt) = x at *
  have hv : Dt.v x = #[.int .i64 a0, .int .i64 a1, .int .i64 a2, .int .i64 a3, .int .i64 a4, .int .i64 a5] := by rw [← hq]; rfl
  have B0 : BoxAt w s (w.alloc (Obj.cells #[.string s] 9)) := ⟨Blk.new _ _ _, (Below.refl _ _).alloc (Nat.le_refl _) _⟩
  have HN0 := Lib.hid N0; clear N0
  have HN1 := Lib.hid N1; clear N1
  have HN2 := Lib.hid N2; clear N2
  have HN3 := Lib.hid N3; clear N3
  have HN4 := Lib.hid N4; clear N4
  have HN5 := Lib.hid N5; clear N5
  have HPO := Lib.hid hpo; clear hpo
  by_cases hok : x.Ok
  · have hof := fun W => dosOf_any W x hin hok
    have htx := fun W => text_any W (ofD x) (ofD_lt hok).1 (ofD_lt hok).2
    rw [splitD_ofD hok] at htx
    unfold textOr at htx
    simp only [if_pos hok] at htx
    rw [hv] at hof
    have HOF := Lib.hid hof; clear hof
    have HTX := Lib.hid htx; clear htx
    by_cases heq : textD x = s
    · have HP := Lib.hid (show parseOk s by rw [HPO.out]; exact ⟨hs, hok, heq⟩)
      have hte : ((textD x).toList == s.toList) = true := by rw [heq]; simp
      clear hok heq
      generalize textD x = tx at *
      go_enter Tryz.func135, Tryz.ntmps135
      go_wp2_with fail
      refine (HN0.out _ B0).mono ?_
      rintro e w1 ⟨rfl, hb1⟩
      have B1 := BoxAt.keep _ _ B0 hb1
      go_wp2_with fail
      refine (HN1.out _ B1).mono ?_
      rintro e w2 ⟨rfl, hb2⟩
      have B2 := BoxAt.keep _ _ B1 hb2
      go_wp2_with fail
      refine (HN2.out _ B2).mono ?_
      rintro e w3 ⟨rfl, hb3⟩
      have B3 := BoxAt.keep _ _ B2 hb3
      go_wp2_with fail
      refine (HN3.out _ B3).mono ?_
      rintro e w4 ⟨rfl, hb4⟩
      have B4 := BoxAt.keep _ _ B3 hb4
      go_wp2_with fail
      refine (HN4.out _ B4).mono ?_
      rintro e w5 ⟨rfl, hb5⟩
      have B5 := BoxAt.keep _ _ B4 hb5
      go_wp2_with fail
      refine (HN5.out _ B5).mono ?_
      rintro e w6 ⟨rfl, hb6⟩
      have B6 := BoxAt.keep _ _ B5 hb6
      go_wp2_with fail
      refine (HOF.out _).mono ?_
      rintro e w7 ⟨rfl, hb7⟩
      have B7 := BoxAt.keep _ _ B6 hb7
      clear hb1 hb2 hb3 hb4 hb5 hb6 hb7 B0 B1 B2 B3 B4 B5 B6
      have B8 : BoxAt w s w7.drew := ⟨B7.1, B7.2.drew⟩
      haveI : Nonempty (Held (BoxAt w s)) := held_some B8
      have qb : ∀ n : Held (BoxAt w s), (HeldW n).cell? ⟨w.heap.size, 0, none⟩ = some (.string s) := fun n => (HeldW_spec n).1.cell 0
      have HB8 := Lib.hid B8; clear B8 B7
      go_wp2_with fail
      refine wp_region_class (BoxAt w s) (by kernel_rfl) (by kernel_rfl) HB8.out ?_
      repeat (go_big_quiet_step (with_reducible exact held_below BoxAt.keep (HTX.out _)))
      refine wpQuiet_nil ?_
      rintro _ ⟨n, rfl⟩
      go_wp2_with fail
      go_ret2
      exact ⟨.inl ⟨HP.out, by first | rfl | simp⟩, (HeldW_spec n).2⟩
    · have HP := Lib.hid (show ¬ parseOk s by rw [HPO.out]; exact fun h => heq h.2.2)
      have hte : ((textD x).toList == s.toList) = false := by rw [← Go.beq_toListBytes]; exact bytes_beq_ne heq
      clear hok heq
      generalize textD x = tx at *
      go_enter Tryz.func135, Tryz.ntmps135
      go_wp2_with fail
      refine (HN0.out _ B0).mono ?_
      rintro e w1 ⟨rfl, hb1⟩
      have B1 := BoxAt.keep _ _ B0 hb1
      go_wp2_with fail
      refine (HN1.out _ B1).mono ?_
      rintro e w2 ⟨rfl, hb2⟩
      have B2 := BoxAt.keep _ _ B1 hb2
      go_wp2_with fail
      refine (HN2.out _ B2).mono ?_
      rintro e w3 ⟨rfl, hb3⟩
      have B3 := BoxAt.keep _ _ B2 hb3
      go_wp2_with fail
      refine (HN3.out _ B3).mono ?_
      rintro e w4 ⟨rfl, hb4⟩
      have B4 := BoxAt.keep _ _ B3 hb4
      go_wp2_with fail
      refine (HN4.out _ B4).mono ?_
      rintro e w5 ⟨rfl, hb5⟩
      have B5 := BoxAt.keep _ _ B4 hb5
      go_wp2_with fail
      refine (HN5.out _ B5).mono ?_
      rintro e w6 ⟨rfl, hb6⟩
      have B6 := BoxAt.keep _ _ B5 hb6
      go_wp2_with fail
      refine (HOF.out _).mono ?_
      rintro e w7 ⟨rfl, hb7⟩
      have B7 := BoxAt.keep _ _ B6 hb7
      clear hb1 hb2 hb3 hb4 hb5 hb6 hb7 B0 B1 B2 B3 B4 B5 B6
      have B8 : BoxAt w s w7.drew := ⟨B7.1, B7.2.drew⟩
      haveI : Nonempty (Held (BoxAt w s)) := held_some B8
      have qb : ∀ n : Held (BoxAt w s), (HeldW n).cell? ⟨w.heap.size, 0, none⟩ = some (.string s) := fun n => (HeldW_spec n).1.cell 0
      have HB8 := Lib.hid B8; clear B8 B7
      go_wp2_with fail
      refine wp_region_class (BoxAt w s) (by kernel_rfl) (by kernel_rfl) HB8.out ?_
      repeat (go_big_quiet_step (with_reducible exact held_below BoxAt.keep (HTX.out _)))
      refine wpQuiet_nil ?_
      rintro _ ⟨n, rfl⟩
      go_wp2_with fail
      go_ret2
      exact ⟨.inr ⟨HP.out, by first | rfl | simp⟩, (HeldW_spec n).2⟩
  · have hof := fun W => dosOf_bad W x hin hok
    rw [hv] at hof
    have HOF := Lib.hid hof; clear hof
    have HP := Lib.hid (show ¬ parseOk s by rw [HPO.out]; exact fun h => hok h.2.1)
    clear hok
    go_enter Tryz.func135, Tryz.ntmps135
    go_wp2_with fail
    refine (HN0.out _ B0).mono ?_
    rintro e w1 ⟨rfl, hb1⟩
    have B1 := BoxAt.keep _ _ B0 hb1
    go_wp2_with fail
    refine (HN1.out _ B1).mono ?_
    rintro e w2 ⟨rfl, hb2⟩
    have B2 := BoxAt.keep _ _ B1 hb2
    go_wp2_with fail
    refine (HN2.out _ B2).mono ?_
    rintro e w3 ⟨rfl, hb3⟩
    have B3 := BoxAt.keep _ _ B2 hb3
    go_wp2_with fail
    refine (HN3.out _ B3).mono ?_
    rintro e w4 ⟨rfl, hb4⟩
    have B4 := BoxAt.keep _ _ B3 hb4
    go_wp2_with fail
    refine (HN4.out _ B4).mono ?_
    rintro e w5 ⟨rfl, hb5⟩
    have B5 := BoxAt.keep _ _ B4 hb5
    go_wp2_with fail
    refine (HN5.out _ B5).mono ?_
    rintro e w6 ⟨rfl, hb6⟩
    have B6 := BoxAt.keep _ _ B5 hb6
    go_wp2_with fail
    refine (HOF.out _).mono ?_
    rintro e w7 ⟨rfl, hb7⟩
    have B7 := BoxAt.keep _ _ B6 hb7
    clear hb1 hb2 hb3 hb4 hb5 hb6 hb7 B0 B1 B2 B3 B4 B5 B6
    have B8 : BoxAt w s w7.drew := ⟨B7.1, B7.2.drew⟩
    haveI : Nonempty (Held (BoxAt w s)) := held_some B8
    have qb : ∀ n : Held (BoxAt w s), (HeldW n).cell? ⟨w.heap.size, 0, none⟩ = some (.string s) := fun n => (HeldW_spec n).1.cell 0
    have HB8 := Lib.hid B8; clear B8 B7
    go_wp2_with fail
    refine wp_region_class (BoxAt w s) (by kernel_rfl) (by kernel_rfl) HB8.out ?_
    repeat (go_big_quiet_step (fail))
    refine wpQuiet_nil ?_
    rintro _ ⟨n, rfl⟩
    go_wp2_with fail
    go_ret2
    exact ⟨.inr ⟨HP.out, by first | rfl | simp⟩, (HeldW_spec n).2⟩
end Go.Proofs.YtjcbjocgachpjaaGreatDoor
/- Contracts of node.Perm and node.Mode. -/
set_option linter.unusedVariables false
set_option linter.unusedSimpArgs false
namespace Sw
def rwxL : List UInt8 := [114, 119, 120, 114, 119, 120, 114, 119, 120]
/-- a mode's signs, the first i of them done -/
def permP (n i : Nat) : List UInt8 := (permL n).take i ++ rwxL.drop i
theorem permP_nine (n : Nat) : permP n 9 = permL n := by
  unfold permP
  rw [List.take_of_length_le (Nat.le_of_eq (perm_len n))]
  simp [rwxL]
theorem permP_dash (n i : Nat) (hn : n < 512) (hi : i < 9) (hb : n / 2 ^ (8 - i) % 2 = 0) : (permP n i).set i 45 = permP n (i + 1) := by
  have : ∀ n : Fin 512, ∀ i : Fin 9, n.1 / 2 ^ (8 - i.1) % 2 = 0 → (permP n.1 i.1).set i.1 45 = permP n.1 (i.1 + 1) := by decide +kernel
  exact this ⟨n, hn⟩ ⟨i, hi⟩ hb
theorem permP_keep (n i : Nat) (hn : n < 512) (hi : i < 9) (hb : ¬ n / 2 ^ (8 - i) % 2 = 0) : permP n i = permP n (i + 1) := by
  have : ∀ n : Fin 512, ∀ i : Fin 9, ¬ n.1 / 2 ^ (8 - i.1) % 2 = 0 → permP n.1 i.1 = permP n.1 (i.1 + 1) := by decide +kernel
  exact this ⟨n, hn⟩ ⟨i, hi⟩ hb
theorem permP_len (n i : Nat) (hi : i ≤ 9) : (permP n i).length = 9 := by
  unfold permP
  rw [List.length_append, List.length_take, List.length_drop, perm_len]
  simp [rwxL]
  omega
/-- a mode's sign is no dash where its bit stands -/
theorem perm_step (n i : Nat) (hn : n < 512) (hi : i < 9) : ∃ c : UInt8, (permL n)[i]? = some c ∧ ((c = 45 ∧ n / 2 ^ (8 - i) = 2 * (n / 2 ^ (9 - i))) ∨ (c ≠ 45 ∧ n / 2 ^ (8 - i) = 2 * (n / 2 ^ (9 - i)) + 1)) := by
  have : ∀ n : Fin 512, ∀ i : Fin 9, ((permL n.1)[i.1]?.getD 0 = 45 ∧ n.1 / 2 ^ (8 - i.1) = 2 * (n.1 / 2 ^ (9 - i.1))) ∨ ((permL n.1)[i.1]?.getD 0 ≠ 45 ∧ n.1 / 2 ^ (8 - i.1) = 2 * (n.1 / 2 ^ (9 - i.1)) + 1) := by decide +kernel
  have hl : i < (permL n).length := by rw [perm_len]; exact hi
  have h := this ⟨n, hn⟩ ⟨i, hi⟩
  simp only at h
  refine ⟨(permL n)[i], List.getElem?_eq_getElem hl, ?_⟩
  rw [List.getElem?_eq_getElem hl] at h
  exact h
end Sw
namespace Go.Proofs.YtjcbjocgachpjaaGreatDoor
open Go Go.RowKit
open Sw
theorem and_bit_i (x : Nat) (hx : x < 4294967296) : bits .and .i64 (x : Int) 1 = ((x % 2 : Nat) : Int) := by
  have h1 : (BitVec.ofInt 64 1).toNat = 2 ^ 1 - 1 := by decide
  have key : (BitVec.ofInt 64 (x : Int) &&& BitVec.ofInt 64 1).toNat = ((x : Int) % ((2 ^ 64 : Nat) : Int)).toNat % 2 ^ 1 := by
    rw [BitVec.toNat_and, BitVec.toNat_ofInt, h1, Nat.and_two_pow_sub_one_eq_mod]
  show IntKind.i64.wrap ((BitVec.ofInt 64 (x : Int) &&& BitVec.ofInt 64 1).toNat : Nat) = _
  rw [key, IntKind.wrap_i64]
  omega
theorem byteVals_set (l : List UInt8) (i : Nat) (c : UInt8) : (byteVals l).toArray.setIfInBounds i (.int .u8 (c.toNat : Int)) = (byteVals (l.set i c)).toArray := by
  simp [byteVals, List.map_set]
set_option maxRecDepth 100000 in
set_option maxHeartbeats 1000000 in
theorem perm_any (w : World) (n : Nat) (hn : n < 512) :
    Calls Tryz.prog 52 #[.int .i64 n] w fun e w' => e = .returned (.string ⟨(permL n).toArray⟩) ∧ Below w.heap.size w w' := by
  have hm := fun W => nodeMode_any W (n : Int)
  rw [decide_eq_true (show (0 : Int) ≤ n ∧ (n : Int) ≤ 511 by omega)] at hm
  have HM := Lib.hid hm; clear hm
  have hcv : (convert 63 63 (.slice (some ⟨w.heap.size, 0, none⟩) 9 9)).run Tryz.prog (w.alloc (.cells #[.int .u8 114, .int .u8 119, .int .u8 120, .int .u8 114, .int .u8 119, .int .u8 120, .int .u8 114, .int .u8 119, .int .u8 120] 5)) = .ok (.slice (some ⟨w.heap.size, 0, none⟩) 9 9) (w.alloc (.cells #[.int .u8 114, .int .u8 119, .int .u8 120, .int .u8 114, .int .u8 119, .int .u8 120, .int .u8 114, .int .u8 119, .int .u8 120] 5 (9, 10))) :=
    Lib.run_convert_bytes_const w 63 5 #[.int .u8 114, .int .u8 119, .int .u8 120, .int .u8 114, .int .u8 119, .int .u8 120, .int .u8 114, .int .u8 119, .int .u8 120] 9 9 Tryz.underlying63 Tryz.underlying5
  obtain ⟨W0, hW0⟩ : ∃ W0, w.alloc (.cells #[.int .u8 114, .int .u8 119, .int .u8 120, .int .u8 114, .int .u8 119, .int .u8 120, .int .u8 114, .int .u8 119, .int .u8 120] 5 (9, 10)) = W0 := ⟨_, rfl⟩
  have hB0 : W0.heap[w.heap.size]? = some (.cells (byteVals (permP n 0)).toArray 5 (9, 10)) := by rw [← hW0]; exact heap_alloc_new w _
  have hb0 : Below w.heap.size w W0 := by rw [← hW0]; exact (Below.refl _ w).alloc (Nat.le_refl _) _
  have HW := Lib.hid (And.intro hW0 (And.intro hB0 hb0)); clear hW0 hB0 hb0
  go_enter Tryz.func52, Tryz.ntmps52
  go_wp2_with fail
  refine (HM.out _).mono ?_
  rintro e w' ⟨rfl, rfl⟩
  go_wp2_with fail
  rw [HW.out.1]
  clear hcv
  go_loopw [4, 12] (fun _ t wr => ∃ i : Nat, i ≤ 9 ∧ t = .int .i64 i ∧ wr.heap[w.heap.size]? = some (.cells (byteVals (permP n i)).toArray 5 (9, 10)) ∧ Below w.heap.size w wr) (fun _ t _ => 9 - (intOf t).toNat)
  case atStart => exact ⟨0, Nat.zero_le _, rfl, HW.out.2.1, HW.out.2.2⟩
  case round =>
    obtain ⟨i, hi, rfl, hB, hb⟩ := hrel
    by_cases hlt : i < 9
    · obtain ⟨j, hj⟩ : ∃ j : Nat, j = 8 - i := ⟨_, rfl⟩
      have hji : (8 : Int) - i = (j : Int) := by omega
      have hfz : wr.frozen? ⟨w.heap.size, i, none⟩ = false := by simp [World.frozen?, hB]; omega
      have hcl : wr.cell? ⟨w.heap.size, i, none⟩ = (byteVals (permP n i)).toArray[i]? := by simp [World.cell?, hB]
      have hb' := hb.setCell (p := ⟨w.heap.size, i, none⟩) (Nat.le_refl _) (.int .u8 45)
      have hP : (wr.setCell ⟨w.heap.size, i, none⟩ (.int .u8 45)).heap[w.heap.size]? = some (.cells ((byteVals (permP n i)).toArray.setIfInBounds i (.int .u8 45)) 5 (9, 10)) := by
        simp [World.setCell, Array.getElem?_modify, hB]
      have hset : (byteVals (permP n i)).toArray.setIfInBounds i (.int .u8 45) = (byteVals ((permP n i).set i 45)).toArray := byteVals_set (permP n i) i 45
      rw [hset] at hP
      have hl : i < (permP n i).length := by rw [permP_len n i hi]; exact hlt
      obtain ⟨c, hc⟩ : ∃ c : UInt8, (byteVals (permP n i)).toArray[i]? = some (.int .u8 (c.toNat : Int)) := ⟨(permP n i)[i], by simp [byteVals, List.getElem?_eq_getElem hl]⟩
      rw [hc] at hcl
      have hle : n / 2 ^ j ≤ n := Nat.div_le_self _ _
      have hbt : bits BinOp.and IntKind.i64 ((n : Int) / 2 ^ (8 - i)) 1 = ((n / 2 ^ j % 2 : Nat) : Int) := by
        rw [← hj, show ((n : Int) / 2 ^ j) = ((n / 2 ^ j : Nat) : Int) by rw [Int.natCast_ediv, Int.natCast_pow]; rfl]
        exact and_bit_i _ (by omega)
      by_cases hbit : n / 2 ^ j % 2 = 0
      · rw [permP_dash n i hn hlt (by rw [← hj]; exact hbit)] at hP
        have HP := Lib.hid (And.intro hP hb'); clear hP hset hb'
        clear hB hb hl hc
        rw [hbit] at hbt
        go_wp2
        go_roundw
        case rel => exact ⟨i + 1, by omega, by go_num, HP.out.1, HP.out.2⟩
        case measure => simp [intOf]; omega
      · rw [permP_keep n i hn hlt (by rw [← hj]; exact hbit)] at hB
        have HP := Lib.hid (And.intro hB hb)
        clear hP hset hb' hB hb hl hc hcl hfz
        rw [show n / 2 ^ j % 2 = 1 by omega] at hbt
        go_wp2
        go_roundw
        case rel => exact ⟨i + 1, by omega, by go_num, HP.out.1, HP.out.2⟩
        case measure => simp [intOf]; omega
    · obtain rfl : i = 9 := by omega
      rw [permP_nine] at hB
      have hc : ∀ j (hj : j < (permL n).length), wr.cell? ((⟨w.heap.size, 0, none⟩ : Addr).add j) = some (.int .u8 (((permL n)[j]).toNat : Int)) := fun j hj => by
        have e : ((⟨w.heap.size, 0, none⟩ : Addr).add j) = ⟨w.heap.size, j, none⟩ := by unfold Addr.add; split <;> simp_all
        rw [e]
        simp [World.cell?, hB, byteVals, List.getElem?_eq_getElem hj]
      have hcv := run_convert_bytes_back wr 63 9 5 ⟨w.heap.size, 0, none⟩ 9 (permL n) Tryz.underlying63 Tryz.underlying5 Tryz.underlying9 hc
      rw [perm_len] at hcv
      clear hc hB
      go_wp2
      go_ret
      exact ⟨rfl, hb⟩
theorem or_one_i (q : Nat) (hq : q < 512) : bits BinOp.or IntKind.i64 ((q : Int) * 2) 1 = 2 * (q : Int) + 1 := by
  have : ∀ q : Fin 512, bits BinOp.or IntKind.i64 ((q.1 : Int) * 2) 1 = 2 * (q.1 : Int) + 1 := by decide +kernel
  exact this ⟨q, hq⟩
set_option maxRecDepth 100000 in
set_option maxHeartbeats 1000000 in
theorem mode_any (w : World) (m : Nat) (hm : m < 512) :
    Calls Tryz.prog 98 #[.string ⟨(permL m).toArray⟩] w fun e w' => e = .returned (.tuple #[.int .i64 m, .bool true]) ∧ Below w.heap.size w w' := by
  have hp := perm_any w m hm
  obtain ⟨s, hs⟩ : ∃ s : ByteArray, (⟨(permL m).toArray⟩ : ByteArray) = s := ⟨_, rfl⟩
  have hsz : s.size = 9 := by rw [← hs]; exact perm_len m
  have hst : ∀ i (h : i < s.size), (s[i] = 45 ∧ m / 2 ^ (8 - i) = 2 * (m / 2 ^ (9 - i))) ∨ (s[i] ≠ 45 ∧ m / 2 ^ (8 - i) = 2 * (m / 2 ^ (9 - i)) + 1) := by
    subst hs
    intro i h
    obtain ⟨c, hc, h2⟩ := perm_step m i hm (by rw [hsz] at h; exact h)
    have hl : i < (permL m).length := by rw [hsz] at h; rw [perm_len]; exact h
    rw [List.getElem?_eq_getElem hl] at hc
    have e : (⟨(permL m).toArray⟩ : ByteArray)[i] = c := by injection hc
    rw [e]
    exact h2
  rw [hs] at hp ⊢
  have HP := Lib.hid hp; clear hp
  have HS := Lib.hid hst; clear hst
  clear hs
  have hbn := bytes_bne_self s
  go_enter Tryz.func98, Tryz.ntmps98
  go_wp2_with fail
  go_loopw [2, 4, 8] (fun v _ t wr => ∃ i : Nat, i ≤ 9 ∧ t = .int .i64 i ∧ v = .int .i64 ((m / 2 ^ (9 - i) : Nat) : Int) ∧ w = wr) (fun _ _ t _ => 9 - (intOf t).toNat)
  case atStart => exact ⟨0, Nat.zero_le _, rfl, by rw [Nat.div_eq_of_lt (by simpa using hm)]; rfl, rfl⟩
  case round =>
    obtain ⟨i, hi, rfl, rfl, rfl⟩ := hrel
    by_cases hlt : i < 9
    · have his : i < s.size := by omega
      have h := HS.out i his
      have hle : m / 2 ^ (9 - i) ≤ m := Nat.div_le_self _ _
      generalize m / 2 ^ (9 - i) = q at *
      rw [show 8 - i = 9 - (i + 1) by omega] at h
      have hlt2 : (i : Int) < 9 := by omega
      rcases h with ⟨h1, h2⟩ | ⟨h1, h2⟩
      · have e1 : ((s[i].toNat : Int) != 45) = false := by rw [h1]; rfl
        have HV := Lib.hid h2; clear h1 h2
        go_wp2_with fail
        exact ⟨⟨i + 1, by omega, by go_num, by rw [HV.out]; first | done | (congr 1 <;> omega), by first | trivial | rfl⟩, by simp [intOf]; omega⟩
      · have e1 : ((s[i].toNat : Int) != 45) = true := by
          rw [bne_iff_ne]
          intro h3
          exact h1 (UInt8.toNat_inj.1 (by rw [show (45 : UInt8).toNat = 45 from rfl]; omega))
        have e2 := or_one_i q (by omega)
        have HV := Lib.hid h2; clear h1 h2
        go_wp2_with fail
        exact ⟨⟨i + 1, by omega, by go_num, by rw [HV.out]; first | done | (congr 1 <;> omega), by first | trivial | rfl⟩, by simp [intOf]; omega⟩
    · obtain rfl : i = 9 := by omega
      rw [Nat.sub_self, Nat.pow_zero, Nat.div_one]
      go_wp2_with fail
      refine HP.out.mono ?_
      rintro e w1 ⟨rfl, hb1⟩
      go_wp2_with fail
      go_ret2
      exact ⟨rfl, hb1⟩
end Go.Proofs.YtjcbjocgachpjaaGreatDoor
/- Contracts of node.dec and node.hex. -/
set_option linter.unusedVariables false
set_option linter.unusedSimpArgs false
namespace Sw
def hexP (n i : Nat) : List UInt8 := (hexL n).take i ++ List.replicate (8 - i) 0
theorem hexP_eight (n : Nat) : hexP n 8 = hexL n := by
  unfold hexP
  rw [List.take_of_length_le (Nat.le_of_eq (hex_len n))]
  simp
theorem hexP_at (n i : Nat) (hi : i < 8) : (hexP n i)[i]? = some 0 := by
  unfold hexP
  rw [List.getElem?_append_right (by rw [List.length_take, hex_len]; omega), List.length_take, hex_len, Nat.min_eq_left (by omega), Nat.sub_self]
  rw [List.getElem?_replicate, if_pos (by omega)]
theorem hexL_at (n i : Nat) (hi : i < 8) : (hexL n)[i]'(by rw [hex_len]; exact hi) = hexD (n / 16 ^ (7 - i) % 16) := by
  unfold hexL
  simp
theorem hexP_set (n i : Nat) (hi : i < 8) : (hexP n i).set i (hexD (n / 16 ^ (7 - i) % 16)) = hexP n (i + 1) := by
  have hl : i < (hexL n).length := by rw [hex_len]; exact hi
  unfold hexP
  rw [List.set_append_right _ _ (by rw [List.length_take, hex_len]; omega), List.length_take, hex_len, Nat.min_eq_left (by omega), Nat.sub_self, show 8 - i = (8 - (i + 1)) + 1 by omega, List.replicate_succ, List.set_cons_zero, List.take_succ_eq_append_getElem hl, hexL_at n i hi, List.append_assoc]
  rfl
end Sw
namespace Go.Proofs.YtjcbjocgachpjaaGreatDoor
open Go Go.RowKit
open Sw
theorem bvh_set (n i : Nat) (hi : i < 8) : (byteVals (hexP n i)).set i (.int .u8 ((hexD (n / 16 ^ (7 - i) % 16)).toNat : Int)) = byteVals (hexP n (i + 1)) := by
  rw [← hexP_set n i hi]
  simp [byteVals, List.map_set]
theorem bvh_at (n i : Nat) (hi : i < 8) : (byteVals (hexP n i))[i]? = some (.int .u8 0) := by
  simp [byteVals, hexP_at n i hi]
theorem dcW_ge (k : Nat) : ∀ l : List UInt8, l.length < (dcW k l).length := by
  induction k using Nat.strongRecOn with
  | _ k ih =>
    intro l
    by_cases h : 9 < k
    · rw [dcW_more l h]
      have := ih (k / 10) (by omega) (dgB k :: l)
      rw [List.length_cons] at this
      omega
    · rw [dcW_last l h, List.length_cons]
      omega
theorem dec_step (k : Nat) (s : ByteArray) : (({ data := #[dgB k] } : ByteArray) ++ s).data.toList = dgB k :: s.data.toList := by simp
theorem dec_end (k : Nat) (s : ByteArray) : ({ data := #[dgB k] } : ByteArray) ++ s = ⟨(dgB k :: s.data.toList).toArray⟩ := by
  apply ByteArray.ext
  simp
set_option maxRecDepth 100000 in
set_option maxHeartbeats 1000000 in
theorem nodeDec_any (w : World) (m : Nat) (hm : m < 100000) :
    Calls Tryz.prog 54 #[.int .i64 m] w fun e w' => e = .returned (.string ⟨(dcW m []).toArray⟩) ∧ Below w.heap.size w w' := by
  have hln := dc_len m hm
  go_enter Tryz.func54, Tryz.ntmps54
  go_wp2_with fail
  go_loopw [0, 3] (fun nv sv wr => ∃ (k : Nat) (s : ByteArray), nv = .int .i64 k ∧ sv = .string s ∧ dcW k s.data.toList = dcW m [] ∧ k ≤ m ∧ Below w.heap.size w wr) (fun nv _ _ => (intOf nv).toNat)
  case atStart => exact ⟨m, ⟨#[]⟩, rfl, rfl, rfl, Nat.le_refl _, Below.refl _ _⟩
  case round =>
    obtain ⟨k, s, rfl, rfl, hd, hk, hb⟩ := hrel
    have hsz : s.size ≤ 5 := by
      have h1 := dcW_ge k s.data.toList
      have h2 : s.data.toList.length = s.size := by simp
      rw [hd] at h1
      omega
    have kc : ∀ b : Int, b = 48 + (k : Int) % 10 → (convert 63 9 (.slice (some ⟨wr.heap.size, 0, none⟩) 1 1)).run Tryz.prog (wr.alloc (.cells #[.int .u8 b] 5)) = .ok (.string ⟨#[dgB k]⟩) (wr.alloc (.cells #[.int .u8 b] 5)) := fun b hb => by
      have h := conv_one (P := Tryz.prog) 63 9 5 Tryz.underlying63 Tryz.underlying5 Tryz.underlying9 wr b (by omega) (by omega)
      rw [h, hb, show (48 + (k : Int) % 10).toNat = 48 + k % 10 by omega]
      rfl
    have hz1 : (⟨#[dgB k]⟩ : ByteArray).size = 1 := rfl
    have hst := dec_step k s
    have hen := dec_end k s
    generalize (⟨#[dgB k]⟩ : ByteArray) = D at *
    by_cases hlt : 9 < k
    · have hlt2 : (9 : Int) < k := by omega
      rw [dcW_more _ hlt, ← hst] at hd
      have HD := Lib.hid hd; clear hd
      have kc1 := kc (48 + (k : Int) % 10) rfl
      clear kc hst hen
      go_wp2_with fail
      go_roundw
      case rel => exact ⟨k / 10, _, by rw [Int.natCast_ediv]; rfl, rfl, HD.out, by omega, hb.alloc hb.size _⟩
      case measure => simp [intOf]; omega
    · have hlt2 : ¬ (9 : Int) < k := by omega
      rw [dcW_last _ hlt] at hd
      rw [hd] at hen
      have HE := Lib.hid hen; clear hd hen hst
      have kc1 := kc (48 + (k : Int)) (by omega)
      clear kc
      go_wp2_with fail
      go_ret
      exact ⟨by first | rw [HE.out]; rfl | (rw [HE.out]; done), hb.alloc hb.size _⟩
theorem index_hexC (x : Nat) (h : x < (⟨#[48, 49, 50, 51, 52, 53, 54, 55, 56, 57, 97, 98, 99, 100, 101, 102]⟩ : ByteArray).size) : (⟨#[48, 49, 50, 51, 52, 53, 54, 55, 56, 57, 97, 98, 99, 100, 101, 102]⟩ : ByteArray)[x]'h = hexD x := by
  have h : x < 16 := h
  have h2 : x = 0 ∨ x = 1 ∨ x = 2 ∨ x = 3 ∨ x = 4 ∨ x = 5 ∨ x = 6 ∨ x = 7 ∨ x = 8 ∨ x = 9 ∨ x = 10 ∨ x = 11 ∨ x = 12 ∨ x = 13 ∨ x = 14 ∨ x = 15 := by omega
  rcases h2 with rfl | rfl | rfl | rfl | rfl | rfl | rfl | rfl | rfl | rfl | rfl | rfl | rfl | rfl | rfl | rfl <;> rfl
set_option maxRecDepth 100000 in
set_option maxHeartbeats 1000000 in
theorem hex_any (w : World) (n : Nat) (hn : n < 4294967296) :
    Calls Tryz.prog 55 #[.int .u32 n] w fun e w' => e = .returned (.string ⟨(hexL n).toArray⟩) ∧ Below w.heap.size w w' := by
  obtain ⟨i0, hi, hz0, hz1, hz2⟩ := info_parts info_u8
  go_enter Tryz.func55, Tryz.ntmps55
  go_wp2_with (at_make; refine wpList_make_full _ rfl _ _ 63 rfl w.heap.size 5 i0 (.int .u8 0) 1 Tryz.underlying63 hi hz0 hz1 .i64 .i64 8 8 8 rfl rfl rfl rfl (by rw [hz2]; omega) (by unfold maxLen; omega) (Nat.le_refl _) ?_; intro w1 hown hgrow)
  have hb := (Below.refl w.heap.size w).grown hgrow (Nat.le_refl _) (by simp)
  clear hgrow
  have hown0 : w1.ownsRow w.heap.size 5 1 (.slice (some ⟨w.heap.size, 0, none⟩) 8 8) 8 (byteVals (hexP n 0)) := by
    have e : (madeCells (Value.int .u8 0).cells (8 * 1)).toList = byteVals (hexP n 0) := by rw [← byteVals_zeros 8]; rfl
    rw [← e]; exact hown
  clear hown
  go_loopw [4, 8] (fun _ t wr => ∃ i : Nat, i ≤ 8 ∧ t = .int .i64 i ∧ wr.ownsRow w.heap.size 5 1 (.slice (some ⟨w.heap.size, 0, none⟩) 8 8) 8 (byteVals (hexP n i)) ∧ Below w.heap.size w wr) (fun _ t _ => 8 - (intOf t).toNat)
  case atStart => exact ⟨0, Nat.zero_le _, rfl, hown0, hb⟩
  case round =>
    obtain ⟨i, hi, rfl, hr, hbr⟩ := hrel
    by_cases hlt : i < 8
    · have hc := hr.cellAt i (by omega)
      have hf := hr.frozenAt i
      rw [bvh_at n i hlt] at hc
      obtain ⟨hs, hg⟩ := hr.stored i (.int .u8 ((hexD (n / 16 ^ (7 - i) % 16)).toNat : Int))
      rw [bvh_set n i hlt] at hs
      have hb' := hbr.grown hg hbr.size (by intro q hq; cases hq; exact Nat.le_refl _)
      have HS := Lib.hid hs; clear hs
      have HB := Lib.hid hb'; clear hb' hg hr
      have hx : n / 16 ^ (7 - i) % 16 < 16 := Nat.mod_lt _ (by decide)
      have hle : n / 16 ^ (7 - i) ≤ n := Nat.div_le_self _ _
      have hms : bits BinOp.and IntKind.u32 ((n : Int) / 2 ^ (28 - 4 * i)) 15 = ((n / 16 ^ (7 - i) % 16 : Nat) : Int) := by
        rw [show 28 - 4 * i = 4 * (7 - i) by omega, Int.pow_mul, show ((n : Int) / (2 ^ 4) ^ (7 - i)) = ((n / 16 ^ (7 - i) : Nat) : Int) by rw [Int.natCast_ediv, Int.natCast_pow]; rfl]
        generalize n / 16 ^ (7 - i) = q at *
        exact and_mask (q : Int) 4 15 rfl (by decide) (by omega) (by omega)
      obtain ⟨x, hxx⟩ : ∃ x : Nat, n / 16 ^ (7 - i) % 16 = x := ⟨_, rfl⟩
      rw [hxx] at hms HS HB hx
      clear hxx hle
      go_wp2
      go_roundw
      case rel =>
        refine ⟨i + 1, by omega, by go_num, ?_⟩
        rw [index_hexC]
        exact ⟨HS.out, HB.out⟩
      case measure => simp [intOf]; omega
    · obtain rfl : i = 8 := by omega
      rw [hexP_eight] at hr
      have hc : ∀ j (hj : j < (hexL n).length), wr.cell? ((⟨w.heap.size, 0, none⟩ : Addr).add j) = some (.int .u8 (((hexL n)[j]).toNat : Int)) := fun j hj => by
        refine hr.cells rfl j _ ?_
        simp [byteVals, List.getElem?_eq_getElem hj]
      have hcv := run_convert_bytes_back wr 63 9 5 ⟨w.heap.size, 0, none⟩ 8 (hexL n) Tryz.underlying63 Tryz.underlying5 Tryz.underlying9 hc
      rw [hex_len] at hcv
      clear hc
      go_wp2
      go_ret
      exact ⟨rfl, hbr⟩
end Go.Proofs.YtjcbjocgachpjaaGreatDoor
