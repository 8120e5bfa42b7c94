/- The walk of DosTexts. -/
import Derived.Test.YthmlfeaoaanmoaaLift
import Derived.Test.YthmlfeaoaanmoaaDosRefText
set_option linter.unusedVariables false
namespace Go.Proofs.Ythmlfeaoaanmoaa
open Go.ChangeShapes Go.WideShapes Go.ChangeAt Go.RowKit
open Go.ChangeMaps (open_string shut_string)
open Sw
theorem parse_yes (w : World) (s : ByteArray) (h : parseOk s) :
    Calls Try.prog 25 #[.string s] w fun e w' => e = .returned (.tuple #[.int .u32 (ofD (partsOf s)), .bool true]) ∧ Below w.heap.size w w' :=
  (parse_any w s h.1).mono fun e w' hr => by
    obtain ⟨h1 | h1, hb⟩ := hr
    · exact ⟨h1.2, hb⟩
    · exact absurd h h1.1
theorem parse_no (w : World) (s : ByteArray) (hm : s.size ≤ maxLen) (h : ¬ parseOk s) :
    Calls Try.prog 25 #[.string s] w fun e w' => e = .returned (.tuple #[.int .u32 0, .bool false]) ∧ Below w.heap.size w w' := by
  by_cases hs : s.size = 19
  · exact (parse_any w s hs).mono fun e w' hr => by
      obtain ⟨h1 | h1, hb⟩ := hr
      · exact absurd h1.1 h
      · exact ⟨h1.2, hb⟩
  · exact parse_short w s hs hm
theorem nonempty_beq (s : ByteArray) (h : 0 < s.size) : (s.toList == ([] : List UInt8)) = false := by
  have h2 := beq_toListBytes s ⟨#[]⟩
  have h3 : (s == (⟨#[]⟩ : ByteArray)) = false := bytes_beq_ne (by intro e; rw [e] at h; exact absurd h (by decide))
  rw [h3, ByteArray.toList_eq ⟨#[]⟩] at h2
  exact h2.symm
theorem cells_of {W : World} {g : Nat} {x : Dt} (h : Blk W g 24 (Dt.v x)) : W.cell? ⟨g, 0, none⟩ = some (.int .i64 x.y) ∧ W.cell? ⟨g, 1, none⟩ = some (.int .i64 x.m) ∧ W.cell? ⟨g, 2, none⟩ = some (.int .i64 x.d) ∧ W.cell? ⟨g, 3, none⟩ = some (.int .i64 x.h) ∧ W.cell? ⟨g, 4, none⟩ = some (.int .i64 x.mi) ∧ W.cell? ⟨g, 5, none⟩ = some (.int .i64 x.s) :=
  ⟨h.cell 0, h.cell 1, h.cell 2, h.cell 3, h.cell 4, h.cell 5⟩
set_option maxRecDepth 100000 in
set_option maxHeartbeats 8000000 in
theorem dosTexts_main (t : Int) (s : ByteArray) (w : World) (h0 : 0 ≤ t) (h1 : t < 4294967296) (hm : s.size ≤ maxLen) :
    Calls Try.prog 4 #[.int .u32 t, .string s] w fun e w' => e = .returned (.bool true) ∧ Below w.heap.size w w' := by
  have HSP := Lib.hid (fun W => refSplit_any W t h0 h1)
  have h2 := fun W => refRight_any W (splitD t) (splitD_in t h0 h1)
  have htx := fun W => text_any W t h0 h1
  have hot := ofD_splitD t h0 h1
  have hzs : splitD 0 = ⟨1980, 0, 0, 0, 0, 0⟩ := by rfl
  unfold textOr at htx
  generalize splitD t = x at *
  by_cases hok : x.Ok
  · simp only [if_pos hok, decide_eq_true hok] at h2 htx
    have hrt := fun W => refText_any W x hok
    have hp1 := fun W => parse_yes W (textD x) (parse_text x hok)
    rw [partsOf_textD x hok, hot] at hp1
    have ht0 : ((textD x).toList == ([] : List UInt8)) = false := nonempty_beq _ (by rw [textD_size]; omega)
    have ht1 : ((textD x).toList == (textD x).toList) = true := by simp
    clear hok hot
    generalize textD x = tx at *
    by_cases hp : parseOk s
    · have hp2 := fun W => parse_yes W s hp
      have hl := ofD_lt hp.2.1
      have hs2 := fun W => refSplit_any W (ofD (partsOf s)) hl.1 hl.2
      rw [splitD_ofD hp.2.1] at hs2
      have hr2 := fun W => refRight_any W (partsOf s) (partsOf_in s)
      simp only [decide_eq_true hp.2.1] at hr2
      have ht2 := fun W => refText_any W (partsOf s) hp.2.1
      rw [hp.2.2] at ht2
      have hss : (s.toList == s.toList) = true := by simp
      clear hl hp hzs
      generalize ofD (partsOf s) = b at *
      generalize partsOf s = z at *
      have HR := Lib.hid h2; clear h2
      have HTX := Lib.hid htx; clear htx
      have HP1 := Lib.hid hp1; clear hp1
      have HP2 := Lib.hid hp2; clear hp2
      have HS2 := Lib.hid hs2; clear hs2
      unfold Dt.v at HSP HR HS2
      have HRT := Lib.hid hrt; clear hrt
      unfold Dt.v at HRT
      have HR2 := Lib.hid hr2; clear hr2
      have HT2 := Lib.hid ht2; clear ht2
      unfold Dt.v at HR2 HT2
      go_enter Try.func4, Try.ntmps4
      go_wp2_with fail
      refine (HSP.out _).mono ?_
      rintro e w1 ⟨rfl, hb1⟩
      have hw1 : Below w.heap.size w w1 := hb1
      go_wp2_with fail
      refine (HR.out _).mono ?_
      rintro e w2 ⟨rfl, hb2⟩
      have hw2 := (hw1.alloc hw1.size (Obj.cells #[Value.int IntKind.i64 x.y, Value.int IntKind.i64 x.m, Value.int IntKind.i64 x.d, Value.int IntKind.i64 x.h, Value.int IntKind.i64 x.mi, Value.int IntKind.i64 x.s] 24)).trans (hb2.mono (by have := hw1.size; rw [World.size_alloc]; omega))
      obtain ⟨x0, x1, x2, x3, x4, x5⟩ := cells_of (x := x) (Blk.below (Blk.new w1 24 #[Value.int IntKind.i64 x.y, Value.int IntKind.i64 x.m, Value.int IntKind.i64 x.d, Value.int IntKind.i64 x.h, Value.int IntKind.i64 x.mi, Value.int IntKind.i64 x.s]) hb2 (by simp))
      go_wp2_with fail
      refine (HRT.out _).mono ?_
      rintro e w3 ⟨rfl, hb3⟩
      have hw3 := hw2.trans (hb3.mono hw2.size)
      clear x0 x1 x2 x3 x4 x5
      go_wp2_with fail
      refine (HP1.out _).mono ?_
      rintro e w4 ⟨rfl, hb4⟩
      have hw4 := hw3.trans (hb4.mono hw3.size)
      go_wp2_with fail
      refine (HP2.out _).mono ?_
      rintro e w5 ⟨rfl, hb5⟩
      have hw5 := hw4.trans (hb5.mono hw4.size)
      go_wp2_with fail
      refine (HS2.out _).mono ?_
      rintro e w6 ⟨rfl, hb6⟩
      have hw6 := hw5.trans (hb6.mono hw5.size)
      go_wp2_with fail
      refine (HTX.out _).mono ?_
      rintro e w7 ⟨rfl, hb7⟩
      have hY7 : Blk w7 w6.heap.size 24 #[Value.int IntKind.i64 z.y, Value.int IntKind.i64 z.m, Value.int IntKind.i64 z.d, Value.int IntKind.i64 z.h, Value.int IntKind.i64 z.mi, Value.int IntKind.i64 z.s] := Blk.below (Blk.new w6 24 #[Value.int IntKind.i64 z.y, Value.int IntKind.i64 z.m, Value.int IntKind.i64 z.d, Value.int IntKind.i64 z.h, Value.int IntKind.i64 z.mi, Value.int IntKind.i64 z.s]) hb7 (by simp)
      have hw7 := (hw6.alloc hw6.size (Obj.cells #[Value.int IntKind.i64 z.y, Value.int IntKind.i64 z.m, Value.int IntKind.i64 z.d, Value.int IntKind.i64 z.h, Value.int IntKind.i64 z.mi, Value.int IntKind.i64 z.s] 24)).trans (hb7.mono (by have := hw6.size; rw [World.size_alloc]; omega))
      obtain ⟨x0, x1, x2, x3, x4, x5⟩ := cells_of (x := z) hY7
      go_wp2_with fail
      refine (HR2.out _).mono ?_
      rintro e w8 ⟨rfl, hb8⟩
      have hY8 := hY7.below hb8 hY7.lt
      have hw8 := hw7.trans (hb8.mono hw7.size)
      clear x0 x1 x2 x3 x4 x5
      obtain ⟨x0, x1, x2, x3, x4, x5⟩ := cells_of (x := z) hY8
      go_wp2_with fail
      refine (HT2.out _).mono ?_
      rintro e w9 ⟨rfl, hb9⟩
      have hw9 := hw8.trans (hb9.mono hw8.size)
      go_wp2_with fail
      refine (dos_lives _).mono ?_
      rintro e wL ⟨rfl, hbL⟩
      go_wp2_with fail
      go_ret
      exact ⟨rfl, hw9.trans (hbL.mono hw9.size)⟩
    · have hp2 := fun W => parse_no W s hm hp
      have hs2 := fun W => refSplit_any W 0 (by omega) (by omega)
      rw [hzs] at hs2
      clear hp hzs
      generalize (⟨1980, 0, 0, 0, 0, 0⟩ : Dt) = z at *
      have HR := Lib.hid h2; clear h2
      have HTX := Lib.hid htx; clear htx
      have HP1 := Lib.hid hp1; clear hp1
      have HP2 := Lib.hid hp2; clear hp2
      have HS2 := Lib.hid hs2; clear hs2
      unfold Dt.v at HSP HR HS2
      have HRT := Lib.hid hrt; clear hrt
      unfold Dt.v at HRT
      go_enter Try.func4, Try.ntmps4
      go_wp2_with fail
      refine (HSP.out _).mono ?_
      rintro e w1 ⟨rfl, hb1⟩
      have hw1 : Below w.heap.size w w1 := hb1
      go_wp2_with fail
      refine (HR.out _).mono ?_
      rintro e w2 ⟨rfl, hb2⟩
      have hw2 := (hw1.alloc hw1.size (Obj.cells #[Value.int IntKind.i64 x.y, Value.int IntKind.i64 x.m, Value.int IntKind.i64 x.d, Value.int IntKind.i64 x.h, Value.int IntKind.i64 x.mi, Value.int IntKind.i64 x.s] 24)).trans (hb2.mono (by have := hw1.size; rw [World.size_alloc]; omega))
      obtain ⟨x0, x1, x2, x3, x4, x5⟩ := cells_of (x := x) (Blk.below (Blk.new w1 24 #[Value.int IntKind.i64 x.y, Value.int IntKind.i64 x.m, Value.int IntKind.i64 x.d, Value.int IntKind.i64 x.h, Value.int IntKind.i64 x.mi, Value.int IntKind.i64 x.s]) hb2 (by simp))
      go_wp2_with fail
      refine (HRT.out _).mono ?_
      rintro e w3 ⟨rfl, hb3⟩
      have hw3 := hw2.trans (hb3.mono hw2.size)
      clear x0 x1 x2 x3 x4 x5
      go_wp2_with fail
      refine (HP1.out _).mono ?_
      rintro e w4 ⟨rfl, hb4⟩
      have hw4 := hw3.trans (hb4.mono hw3.size)
      go_wp2_with fail
      refine (HP2.out _).mono ?_
      rintro e w5 ⟨rfl, hb5⟩
      have hw5 := hw4.trans (hb5.mono hw4.size)
      go_wp2_with fail
      refine (HS2.out _).mono ?_
      rintro e w6 ⟨rfl, hb6⟩
      have hw6 := hw5.trans (hb6.mono hw5.size)
      go_wp2_with fail
      refine (HTX.out _).mono ?_
      rintro e w7 ⟨rfl, hb7⟩
      have hY7 : Blk w7 w6.heap.size 24 #[Value.int IntKind.i64 z.y, Value.int IntKind.i64 z.m, Value.int IntKind.i64 z.d, Value.int IntKind.i64 z.h, Value.int IntKind.i64 z.mi, Value.int IntKind.i64 z.s] := Blk.below (Blk.new w6 24 #[Value.int IntKind.i64 z.y, Value.int IntKind.i64 z.m, Value.int IntKind.i64 z.d, Value.int IntKind.i64 z.h, Value.int IntKind.i64 z.mi, Value.int IntKind.i64 z.s]) hb7 (by simp)
      have hw7 := (hw6.alloc hw6.size (Obj.cells #[Value.int IntKind.i64 z.y, Value.int IntKind.i64 z.m, Value.int IntKind.i64 z.d, Value.int IntKind.i64 z.h, Value.int IntKind.i64 z.mi, Value.int IntKind.i64 z.s] 24)).trans (hb7.mono (by have := hw6.size; rw [World.size_alloc]; omega))
      have hw9 := hw7
      go_wp2_with fail
      refine (dos_lives _).mono ?_
      rintro e wL ⟨rfl, hbL⟩
      go_wp2_with fail
      go_ret
      exact ⟨rfl, hw9.trans (hbL.mono hw9.size)⟩
  · simp only [if_neg hok, decide_eq_false hok] at h2 htx
    have hp1 := fun W => parse_no W ⟨#[]⟩ (by show 0 ≤ maxLen; unfold maxLen; omega) (by intro h; exact absurd h.1 (by decide))
    clear hok hot
    by_cases hp : parseOk s
    · have hp2 := fun W => parse_yes W s hp
      have hl := ofD_lt hp.2.1
      have hs2 := fun W => refSplit_any W (ofD (partsOf s)) hl.1 hl.2
      rw [splitD_ofD hp.2.1] at hs2
      have hr2 := fun W => refRight_any W (partsOf s) (partsOf_in s)
      simp only [decide_eq_true hp.2.1] at hr2
      have ht2 := fun W => refText_any W (partsOf s) hp.2.1
      rw [hp.2.2] at ht2
      have hss : (s.toList == s.toList) = true := by simp
      clear hl hp hzs
      generalize ofD (partsOf s) = b at *
      generalize partsOf s = z at *
      have HR := Lib.hid h2; clear h2
      have HTX := Lib.hid htx; clear htx
      have HP1 := Lib.hid hp1; clear hp1
      have HP2 := Lib.hid hp2; clear hp2
      have HS2 := Lib.hid hs2; clear hs2
      unfold Dt.v at HSP HR HS2
      have HR2 := Lib.hid hr2; clear hr2
      have HT2 := Lib.hid ht2; clear ht2
      unfold Dt.v at HR2 HT2
      go_enter Try.func4, Try.ntmps4
      go_wp2_with fail
      refine (HSP.out _).mono ?_
      rintro e w1 ⟨rfl, hb1⟩
      have hw1 : Below w.heap.size w w1 := hb1
      go_wp2_with fail
      refine (HR.out _).mono ?_
      rintro e w2 ⟨rfl, hb2⟩
      have hw2 := (hw1.alloc hw1.size (Obj.cells #[Value.int IntKind.i64 x.y, Value.int IntKind.i64 x.m, Value.int IntKind.i64 x.d, Value.int IntKind.i64 x.h, Value.int IntKind.i64 x.mi, Value.int IntKind.i64 x.s] 24)).trans (hb2.mono (by have := hw1.size; rw [World.size_alloc]; omega))
      have hw3 := hw2
      go_wp2_with fail
      refine (HP1.out _).mono ?_
      rintro e w4 ⟨rfl, hb4⟩
      have hw4 := hw3.trans (hb4.mono hw3.size)
      go_wp2_with fail
      refine (HP2.out _).mono ?_
      rintro e w5 ⟨rfl, hb5⟩
      have hw5 := hw4.trans (hb5.mono hw4.size)
      go_wp2_with fail
      refine (HS2.out _).mono ?_
      rintro e w6 ⟨rfl, hb6⟩
      have hw6 := hw5.trans (hb6.mono hw5.size)
      go_wp2_with fail
      refine (HTX.out _).mono ?_
      rintro e w7 ⟨rfl, hb7⟩
      have hY7 : Blk w7 w6.heap.size 24 #[Value.int IntKind.i64 z.y, Value.int IntKind.i64 z.m, Value.int IntKind.i64 z.d, Value.int IntKind.i64 z.h, Value.int IntKind.i64 z.mi, Value.int IntKind.i64 z.s] := Blk.below (Blk.new w6 24 #[Value.int IntKind.i64 z.y, Value.int IntKind.i64 z.m, Value.int IntKind.i64 z.d, Value.int IntKind.i64 z.h, Value.int IntKind.i64 z.mi, Value.int IntKind.i64 z.s]) hb7 (by simp)
      have hw7 := (hw6.alloc hw6.size (Obj.cells #[Value.int IntKind.i64 z.y, Value.int IntKind.i64 z.m, Value.int IntKind.i64 z.d, Value.int IntKind.i64 z.h, Value.int IntKind.i64 z.mi, Value.int IntKind.i64 z.s] 24)).trans (hb7.mono (by have := hw6.size; rw [World.size_alloc]; omega))
      obtain ⟨x0, x1, x2, x3, x4, x5⟩ := cells_of (x := z) hY7
      go_wp2_with fail
      refine (HR2.out _).mono ?_
      rintro e w8 ⟨rfl, hb8⟩
      have hY8 := hY7.below hb8 hY7.lt
      have hw8 := hw7.trans (hb8.mono hw7.size)
      clear x0 x1 x2 x3 x4 x5
      obtain ⟨x0, x1, x2, x3, x4, x5⟩ := cells_of (x := z) hY8
      go_wp2_with fail
      refine (HT2.out _).mono ?_
      rintro e w9 ⟨rfl, hb9⟩
      have hw9 := hw8.trans (hb9.mono hw8.size)
      go_wp2_with fail
      refine (dos_lives _).mono ?_
      rintro e wL ⟨rfl, hbL⟩
      go_wp2_with fail
      go_ret
      exact ⟨rfl, hw9.trans (hbL.mono hw9.size)⟩
    · have hp2 := fun W => parse_no W s hm hp
      have hs2 := fun W => refSplit_any W 0 (by omega) (by omega)
      rw [hzs] at hs2
      clear hp hzs
      generalize (⟨1980, 0, 0, 0, 0, 0⟩ : Dt) = z at *
      have HR := Lib.hid h2; clear h2
      have HTX := Lib.hid htx; clear htx
      have HP1 := Lib.hid hp1; clear hp1
      have HP2 := Lib.hid hp2; clear hp2
      have HS2 := Lib.hid hs2; clear hs2
      unfold Dt.v at HSP HR HS2
      go_enter Try.func4, Try.ntmps4
      go_wp2_with fail
      refine (HSP.out _).mono ?_
      rintro e w1 ⟨rfl, hb1⟩
      have hw1 : Below w.heap.size w w1 := hb1
      go_wp2_with fail
      refine (HR.out _).mono ?_
      rintro e w2 ⟨rfl, hb2⟩
      have hw2 := (hw1.alloc hw1.size (Obj.cells #[Value.int IntKind.i64 x.y, Value.int IntKind.i64 x.m, Value.int IntKind.i64 x.d, Value.int IntKind.i64 x.h, Value.int IntKind.i64 x.mi, Value.int IntKind.i64 x.s] 24)).trans (hb2.mono (by have := hw1.size; rw [World.size_alloc]; omega))
      have hw3 := hw2
      go_wp2_with fail
      refine (HP1.out _).mono ?_
      rintro e w4 ⟨rfl, hb4⟩
      have hw4 := hw3.trans (hb4.mono hw3.size)
      go_wp2_with fail
      refine (HP2.out _).mono ?_
      rintro e w5 ⟨rfl, hb5⟩
      have hw5 := hw4.trans (hb5.mono hw4.size)
      go_wp2_with fail
      refine (HS2.out _).mono ?_
      rintro e w6 ⟨rfl, hb6⟩
      have hw6 := hw5.trans (hb6.mono hw5.size)
      go_wp2_with fail
      refine (HTX.out _).mono ?_
      rintro e w7 ⟨rfl, hb7⟩
      have hY7 : Blk w7 w6.heap.size 24 #[Value.int IntKind.i64 z.y, Value.int IntKind.i64 z.m, Value.int IntKind.i64 z.d, Value.int IntKind.i64 z.h, Value.int IntKind.i64 z.mi, Value.int IntKind.i64 z.s] := Blk.below (Blk.new w6 24 #[Value.int IntKind.i64 z.y, Value.int IntKind.i64 z.m, Value.int IntKind.i64 z.d, Value.int IntKind.i64 z.h, Value.int IntKind.i64 z.mi, Value.int IntKind.i64 z.s]) hb7 (by simp)
      have hw7 := (hw6.alloc hw6.size (Obj.cells #[Value.int IntKind.i64 z.y, Value.int IntKind.i64 z.m, Value.int IntKind.i64 z.d, Value.int IntKind.i64 z.h, Value.int IntKind.i64 z.mi, Value.int IntKind.i64 z.s] 24)).trans (hb7.mono (by have := hw6.size; rw [World.size_alloc]; omega))
      have hw9 := hw7
      go_wp2_with fail
      refine (dos_lives _).mono ?_
      rintro e wL ⟨rfl, hbL⟩
      go_wp2_with fail
      go_ret
      exact ⟨rfl, hw9.trans (hbL.mono hw9.size)⟩
set_option maxRecDepth 100000 in
theorem dosTexts_walk : Walks 4 Try.f4 := by
  intro H enc W base args ds ps hval hA hlt hsz
  rw [Try.params4] at hA hval
  obtain ⟨v0, v1, d0, d1, p0, p1, rfl, rfl, rfl, h0, h1⟩ := trodAll_two hA
  obtain ⟨t, rfl, rfl, rfl, wt⟩ := open_int Try.underlying22 (hval 0 22 v0 rfl rfl) h0
  obtain ⟨s, rfl, rfl, rfl, hs⟩ := open_string Try.underlying9 (hval 1 9 v1 rfl rfl) h1
  obtain ⟨t0, t1⟩ := bounds_u32 wt
  exact dosTexts_main t s W (by omega) (by omega) hs
end Go.Proofs.Ythmlfeaoaanmoaa
