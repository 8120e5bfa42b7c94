/- Contracts of field.Writer: Text, Num, Bytes, Len. -/
import Derived.Test.YthmlfeaoaanmoaaBuilder
import Derived.Test.YthmlfeaoaanmoaaFieldPut
import Derived.Test.YthmlfeaoaanmoaaOpen
set_option linter.unusedVariables false
set_option linter.unusedSimpArgs false
namespace Go.Proofs.Ythmlfeaoaanmoaa
open Go.RowKit
open Sw
theorem others_below {w w' : World} {e : TypeId} {b : Option Nat} (h : Below w.heap.size w w') : Lib.OthersKept e b w w' := by
  intro k o hk _ _
  rw [h.block k (Array.getElem?_eq_some_iff.1 hk).1]; exact hk
theorem others_blk {w w' : World} {e : TypeId} {b g : Nat} {t : TypeId} {cs : Array Value} (h : Lib.OthersKept e (some b) w w') (hg : Blk w g t cs) (hb : g ≠ b) (ht : t ≠ e) : Blk w' g t cs := by
  refine h g _ hg (fun e => hb (by injection e)) ?_
  intro c fz hc
  injection hc with _ h2 _
  exact ht h2
theorem Bld.below {B B' b : Nat} {bs : List Value} {w w' : World} (h : Bld B b bs w) (hb : Below w.heap.size w w') : Bld B b bs w' := by
  have hh : ∀ p, BldAt B b p bs w → BldAt B b p bs w' := by
    rintro p ⟨hB, v, hbk, hown, hne⟩
    refine ⟨hB, v, ?_, hown.kept (row := none) ?_ ?_, hne⟩
    · rw [hb.block b (Array.getElem?_eq_some_iff.1 hbk).1]; exact hbk
    · exact grown_below hb
    · rcases v.ownBlock.eq_none_or_eq_some with h | ⟨g, h⟩
      · exact .inl h
      · right; rw [h]; simp
  rcases h with h | h
  · exact .inl (hh _ h)
  · exact .inr (hh _ h)
theorem Bld.lt {B b : Nat} {bs : List Value} {w : World} (h : Bld B b bs w) : b < w.heap.size := by
  rcases h with h | h
  · exact Lib.BuilderAtF.lt h
  · exact Lib.BuilderAtF.lt h
theorem bld_fresh (w : World) : Bld w.heap.size w.heap.size (Lib.byteCells []) (w.alloc (.cells #[.pointer none, .slice none 0 0] 135)) :=
  Lib.IsBuilderF.of (Lib.fresh_isBuilder _ _ _)
theorem Bld.alloc {B b : Nat} {bs : List Value} {w : World} (h : Bld B b bs w) (o : Obj) : Bld B b bs (w.alloc o) := Lib.IsBuilderF.alloc h o
/-- the bytes of texts, one behind the other -/
def catL (ts : List ByteArray) : List UInt8 := ts.flatMap fun t => t.data.toList
theorem catL_take (ts : List ByteArray) (k : Nat) (h : k < ts.length) : catL (ts.take (k + 1)) = catL (ts.take k) ++ (ts[k]).data.toList := by
  unfold catL
  rw [List.take_succ_eq_append_getElem h, List.flatMap_append]; simp
theorem catL_take_le (ts : List ByteArray) (k : Nat) : (catL (ts.take k)).length ≤ (catL ts).length := by
  unfold catL
  conv => rhs; rw [← List.take_append_drop k ts]
  rw [List.flatMap_append, List.length_append]; omega
set_option maxRecDepth 100000 in
set_option maxHeartbeats 1000000 in
theorem writerText_any (B b g : Nat) (bs : List UInt8) (ts : List ByteArray) (w : World) (h : Bld B b (Lib.byteCells bs) w) (hBw : B ≤ w.heap.size) (hg : Blk w g 9 (ts.map Value.string).toArray) (hgb : g ≠ b)
    (hlen : bs.length + (catL ts).length ≤ 140737488355328) (hn : ts.length ≤ 1000000) :
    Calls Try.prog 87 #[.pointer (some ⟨b, 0, none⟩), .slice (some ⟨g, 0, none⟩) ts.length ts.length] w fun e w' => e = .returned (.pointer (some ⟨b, 0, none⟩)) ∧ Bld B b (Lib.byteCells (bs ++ catL ts)) w' ∧ Below B w w' ∧ Lib.OthersKept 5 (some b) w w' := by
  have HB := Lib.hid h; clear h
  have HG := Lib.hid hg; clear hg
  obtain ⟨N, hN⟩ : ∃ N, ts.length = N := ⟨_, rfl⟩
  rw [hN]
  have HN := Lib.hid hN; clear hN
  have hn' : N ≤ 1000000 := by have := HN.out; omega
  clear hn
  go_enter Try.func87, Try.ntmps87
  go_wp2
  go_loopw [11] (fun i wr => ∃ k : Nat, k ≤ N ∧ i = .int .i64 k ∧ Bld B b (Lib.byteCells (bs ++ catL (ts.take k))) wr ∧ Blk wr g 9 (ts.map Value.string).toArray ∧ Below B w wr ∧ Lib.OthersKept 5 (some b) w wr) (fun i _ => N - (intOf i).toNat)
  case atStart => exact ⟨0, Nat.zero_le _, rfl, by simpa [catL] using HB.out, HG.out, Below.refl _ _, Lib.OthersKept.refl _ _ _⟩
  case round =>
    obtain ⟨k, hk, rfl, hb, hg, hbl, ho⟩ := hrel
    have hkl : k < N → k < ts.length := fun h => by have := HN.out; omega
    by_cases hlt : k < N
    · have hk2 := hkl hlt
      have hc : wr.cell? ⟨g, k, none⟩ = some (.string ts[k]) := by
        have := hg.cell k
        simpa [List.getElem?_eq_getElem hk2] using this
      have ht := catL_take ts k hk2
      have hle := catL_take_le ts (k + 1)
      have hle0 : (catL (ts.take (k + 1))).length = (catL (ts.take k)).length + ts[k].size := by rw [ht, List.length_append]; simp
      have hws := writeString_any B b (Lib.byteCells (bs ++ catL (ts.take k))) ts[k] wr hb (by rw [Lib.byteCells_length, List.length_append]; omega) (Nat.le_trans hBw hbl.size)
      have HT := Lib.hid ht; clear ht hle hle0
      have HR := Lib.hid (And.intro hg (And.intro hbl ho)); clear hg hbl ho hb hkl
      generalize ts[k] = s at *
      go_wp2_with (go_at_call 91; refine hws.mono ?_)
      rintro e w1 ⟨rfl, h1, hb1, hk1⟩
      clear hws
      have HQ := Lib.hid (And.intro h1 (And.intro hb1 hk1)); clear h1 hb1 hk1
      go_wp2
      go_roundw
      case rel =>
        obtain ⟨h1, hb1, hk1⟩ := HQ.out
        obtain ⟨hg, hbl, ho⟩ := HR.out
        refine ⟨k + 1, by omega, by go_num, .inr ?_, others_blk hk1 hg hgb (by decide), hbl.trans hb1, ho.trans hk1⟩
        rw [HT.out, ← List.append_assoc, Lib.byteCells_append]
        exact h1
      case measure => simp [intOf]; omega
    · obtain rfl : k = N := by omega
      have HR := Lib.hid (And.intro hg (And.intro hbl (And.intro ho hb))); clear hg hbl ho hb hkl
      go_wp2
      go_ret
      obtain ⟨hg, hbl, ho, hb⟩ := HR.out
      refine ⟨rfl, ?_, hbl, ho⟩
      rw [List.take_of_length_le (by have := HN.out; omega)] at hb
      exact hb
set_option maxRecDepth 100000 in
theorem writerText_nil (v : Value) (w : World) : Calls Try.prog 87 #[.pointer none, v] w fun e w' => e = .returned (.pointer none) ∧ w = w' := by
  go_enter Try.func87, Try.ntmps87
  go_wp2
  go_ret
  exact ⟨rfl, rfl⟩
set_option maxRecDepth 100000 in
set_option maxHeartbeats 1000000 in
theorem writerNum_any (B b : Nat) (bs : List UInt8) (x : Nat) (n : Int) (w : World) (hx : x < 2 ^ 64) (k : Nat) (hk : k ≤ 8) (hn : max 0 (min n 8) = (k : Int)) (h : Bld B b (Lib.byteCells bs) w) (hBw : B ≤ w.heap.size) (hlen : bs.length + k ≤ 140737488355328) :
    Calls Try.prog 86 #[.pointer (some ⟨b, 0, none⟩), .int .u64 x, .int .i64 n] w fun e w' => e = .returned (.pointer (some ⟨b, 0, none⟩)) ∧ Bld B b (Lib.byteCells (bs ++ putL x k)) w' ∧ Below B w w' ∧ Lib.OthersKept 5 (some b) w w' := by
  have hput := fun W => fieldPut_any x n W hx k hk hn
  have hsz : ({ data := (putL x k).toArray } : ByteArray).size = k := by simp [ByteArray.size, putL_length]
  have HB := Lib.hid h; clear h
  have HX := Lib.hid hx; clear hx
  have HN := Lib.hid hn; clear hn
  go_enter Try.func86, Try.ntmps86
  go_wp2_with (go_at_call 90; refine (hput _).mono ?_; rintro e w1 ⟨rfl, hb1⟩)
  have hbx := (Bld.below (B' := 0) HB.out hb1).alloc (Obj.cells #[Value.string { data := (putL x k).toArray }] 9)
  have hlt := HB.out.lt
  have ht := writerText_any B b w1.heap.size bs [⟨(putL x k).toArray⟩] _ hbx (by have := hb1.size; simp; omega) (Blk.new _ _ _) (by have := hb1.size; omega) (by simp [catL, putL_length]; omega) (by simp)
  have hcat : catL [(⟨(putL x k).toArray⟩ : ByteArray)] = putL x k := by simp [catL]
  rw [hcat] at ht
  have HB1 := Lib.hid hb1
  refine ht.mono ?_
  rintro e w2 ⟨rfl, h2, hb2, ho2⟩
  clear hput ht
  have HF := Lib.hid (And.intro h2 (And.intro hb2 ho2)); clear h2 hb2 ho2 hb1 hbx
  go_wp2
  go_ret
  obtain ⟨h2, hb2, ho2⟩ := HF.out
  refine ⟨rfl, h2, ((HB1.out.mono hBw).alloc (by have := HB1.out.size; omega) _).trans hb2, ((others_below HB1.out).alloc _).trans ho2⟩
set_option maxRecDepth 100000 in
set_option maxHeartbeats 1000000 in
theorem writerNum_nil (x : Nat) (n : Int) (w : World) (hx : x < 2 ^ 64) (k : Nat) (hk : k ≤ 8) (hn : max 0 (min n 8) = (k : Int)) :
    Calls Try.prog 86 #[.pointer none, .int .u64 x, .int .i64 n] w fun e w' => e = .returned (.pointer none) ∧ Below w.heap.size w w' := by
  have hput := fun W => fieldPut_any x n W hx k hk hn
  have HX := Lib.hid hx; clear hx
  have HN := Lib.hid hn; clear hn
  go_enter Try.func86, Try.ntmps86
  go_wp2_with (first | (go_at_call 90; refine (hput _).mono ?_; rintro e w1 ⟨rfl, hb1⟩) | (go_at_call 87; refine (writerText_nil _ _).mono ?_; rintro e w2 ⟨rfl, rfl⟩))
  go_ret
  exact ⟨rfl, hb1.alloc hb1.size _⟩
set_option maxRecDepth 100000 in
set_option maxHeartbeats 1000000 in
theorem writerBytes_any (B b : Nat) (l : List UInt8) (w : World) (h : Bld B b (Lib.byteCells l) w) (hBw : B ≤ w.heap.size) :
    Calls Try.prog 88 #[.pointer (some ⟨b, 0, none⟩)] w fun e w' => e = .returned (.string ⟨l.toArray⟩) ∧ Bld B b (Lib.byteCells l) w' ∧ Below B w w' ∧ Lib.OthersKept 5 (some b) w w' := by
  have HB := Lib.hid h; clear h
  go_enter Try.func88, Try.ntmps88
  go_wp2_with (go_at_call 92; refine (bldString_any B b l _ HB.out hBw).mono ?_; rintro e w1 ⟨rfl, h1, h2, h3⟩)
  go_ret
  exact ⟨rfl, h1, h2, h3⟩
set_option maxRecDepth 100000 in
theorem writerBytes_nil (w : World) : Calls Try.prog 88 #[.pointer none] w fun e w' => e = .returned (.string ⟨#[]⟩) ∧ w = w' := by
  go_enter Try.func88, Try.ntmps88
  go_wp2
  go_ret
  exact ⟨rfl, rfl⟩
end Go.Proofs.Ythmlfeaoaanmoaa
