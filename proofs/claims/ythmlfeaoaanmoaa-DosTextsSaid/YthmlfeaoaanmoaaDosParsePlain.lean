/- Plain laws of layer 12: the numbers of a text, and the text of parts. -/
import Derived.Test.YthmlfeaoaanmoaaDosText
set_option linter.unusedVariables false
namespace Go.Proofs.Ythmlfeaoaanmoaa
open Sw
def numI (l : List UInt8) : Int := l.foldl (fun n b => 10 * n + (b.toNat : Int) - 48) 0
theorem numI_snoc (l : List UInt8) (b : UInt8) : numI (l ++ [b]) = 10 * numI l + (b.toNat : Int) - 48 := by
  simp [numI, List.foldl_append]
theorem numI_bound (l : List UInt8) (h : l.length ≤ 4) : -100000 ≤ numI l ∧ numI l ≤ 1000000 := by
  match l, h with
  | [], _ => simp [numI]
  | [a], _ => have := a.toNat_lt; simp [numI]; omega
  | [a, b], _ => have := a.toNat_lt; have := b.toNat_lt; simp [numI]; omega
  | [a, b, c], _ => have := a.toNat_lt; have := b.toNat_lt; have := c.toNat_lt; simp [numI]; omega
  | [a, b, c, d], _ => have := a.toNat_lt; have := b.toNat_lt; have := c.toNat_lt; have := d.toNat_lt; simp [numI]; omega
theorem digit_toNat (n : Nat) : (UInt8.ofNat (48 + n % 10)).toNat = 48 + n % 10 := by
  have := Nat.mod_lt n (show 0 < 10 by omega)
  simp
  omega
theorem numI_two (n : Nat) (h : n < 100) : numI (digL n 2) = n := by
  simp only [digL, numI, List.foldl_cons, List.foldl_nil, digit_toNat]
  simp
  omega
theorem numI_four (n : Nat) (h : n < 10000) : numI (digL n 4) = n := by
  simp only [digL, numI, List.foldl_cons, List.foldl_nil, digit_toNat]
  simp
  omega
theorem digL_four (n : Nat) (h : n < 10000) : digL n 4 = digL (n / 100) 2 ++ digL (n % 100) 2 := by
  have e1 : n / 10 ^ 3 % 10 = n / 100 / 10 ^ 1 % 10 := by omega
  have e2 : n / 10 ^ 2 % 10 = n / 100 / 10 ^ 0 % 10 := by omega
  have e3 : n / 10 ^ 1 % 10 = n % 100 / 10 ^ 1 % 10 := by omega
  have e4 : n / 10 ^ 0 % 10 = n % 100 / 10 ^ 0 % 10 := by omega
  simp only [digL, e1, e2, e3, e4]
  rfl
theorem dig_list (n : Int) (k : Nat) : (dig n k).data.toList = digL n.toNat k := rfl
theorem textD_list (x : Dt) : (textD x).data.toList = digL x.y.toNat 4 ++ [45] ++ digL x.m.toNat 2 ++ [45] ++ digL x.d.toNat 2 ++ [32] ++ digL x.h.toNat 2 ++ [58] ++ digL x.mi.toNat 2 ++ [58] ++ digL x.s.toNat 2 := by
  unfold textD
  simp only [ByteArray.data_append, Array.toList_append, dig_list]
theorem textD_size (x : Dt) : (textD x).size = 19 := by
  rw [← ByteArray.size_data, ← Array.length_toList, textD_list]
  simp [digL_length]
/-- the numbers at the places of a text -/
def partsOf (s : ByteArray) : Dt := ⟨numI (s.extract 0 4).data.toList, numI (s.extract 5 7).data.toList, numI (s.extract 8 10).data.toList, numI (s.extract 11 13).data.toList, numI (s.extract 14 16).data.toList, numI (s.extract 17 19).data.toList⟩
theorem extract_list (s : ByteArray) (a b : Nat) : (s.extract a b).data.toList = (s.data.toList.drop a).take (b - a) := by
  simp [List.take_drop]
theorem partsOf_textD (x : Dt) (h : x.Ok) : partsOf (textD x) = x := by
  have hy := h.year
  unfold Dt.Ok at h
  have l4 := digL_length x.y.toNat 4
  have lm := digL_length x.m.toNat 2
  have ld := digL_length x.d.toNat 2
  have lh := digL_length x.h.toNat 2
  have li := digL_length x.mi.toNat 2
  have ls := digL_length x.s.toNat 2
  have ny := numI_four x.y.toNat (by omega)
  have nm := numI_two x.m.toNat (by omega)
  have nd := numI_two x.d.toNat (by omega)
  have nh := numI_two x.h.toNat (by omega)
  have ni := numI_two x.mi.toNat (by omega)
  have ns := numI_two x.s.toNat (by omega)
  unfold partsOf
  simp only [extract_list, textD_list]
  generalize digL x.y.toNat 4 = Y at *
  generalize digL x.m.toNat 2 = M at *
  generalize digL x.d.toNat 2 = D at *
  generalize digL x.h.toNat 2 = H at *
  generalize digL x.mi.toNat 2 = I at *
  generalize digL x.s.toNat 2 = S at *
  match Y, M, D, H, I, S, l4, lm, ld, lh, li, ls with
  | [a, b, c, d], [e, f], [g, i], [j, k], [l, m], [n, o], _, _, _, _, _, _ =>
    cases x
    simp only [Dt.mk.injEq] at *
    refine ⟨?_, ?_, ?_, ?_, ?_, ?_⟩
    · show numI [a, b, c, d] = _; rw [ny]; omega
    · show numI [e, f] = _; rw [nm]; omega
    · show numI [g, i] = _; rw [nd]; omega
    · show numI [j, k] = _; rw [nh]; omega
    · show numI [l, m] = _; rw [ni]; omega
    · show numI [n, o] = _; rw [ns]; omega
/-- what is parsed of a text -/
def parseOk (s : ByteArray) : Prop := s.size = 19 ∧ (partsOf s).Ok ∧ textD (partsOf s) = s
theorem parse_text (x : Dt) (h : x.Ok) : parseOk (textD x) := by
  refine ⟨textD_size x, ?_, ?_⟩
  · rw [partsOf_textD x h]; exact h
  · rw [partsOf_textD x h]
theorem partsOf_in (s : ByteArray) : Dt.In (partsOf s) := by
  have b (a c : Nat) (h : c - a ≤ 4) : -100000 ≤ numI (s.extract a c).data.toList ∧ numI (s.extract a c).data.toList ≤ 1000000 := numI_bound _ (by rw [extract_list, List.length_take]; omega)
  have b0 := b 0 4 (by omega)
  have b1 := b 5 7 (by omega)
  have b2 := b 8 10 (by omega)
  have b3 := b 11 13 (by omega)
  have b4 := b 14 16 (by omega)
  have b5 := b 17 19 (by omega)
  constructor <;> (simp only [partsOf]; omega)
end Go.Proofs.Ythmlfeaoaanmoaa
