/- The walk of DosOrders. -/
import Derived.Test.YthmlfeaoaanmoaaLift
import Derived.Test.YthmlfeaoaanmoaaDosFrom
import Derived.Test.YthmlfeaoaanmoaaDosText
import Derived.Test.YthmlfeaoaanmoaaDosOrdPlain
set_option linter.unusedVariables false
namespace Go.Proofs.Ythmlfeaoaanmoaa
open Go.ChangeShapes Go.WideShapes Go.ChangeAt Go.RowKit
open Sw
theorem from_secs (w : World) (x : Dt) (h : x.Ok) :
    Calls Try.prog 29 #[.int .i64 (secsD x)] w fun e w' => e = .returned (.tuple #[.int .u32 (ofD x), .bool true]) ∧ Below w.heap.size w w' := by
  have hb := secs_bound h
  have he := secs_even h
  refine (from_any w (secsD x) hb.1 (by omega)).mono fun e w' hr => ?_
  obtain ⟨h2 | h2, hbw⟩ := hr
  · obtain ⟨z, hz, hzs, _, rfl⟩ := h2
    have hzz : secsD z = secsD x := by omega
    rw [(secs_iff hz h).2.2 hzz]
    exact ⟨rfl, hbw⟩
  · omega
set_option maxRecDepth 100000 in
set_option maxHeartbeats 8000000 in
theorem dosOrders_main (t u : Int) (w : World) (h0 : 0 ≤ t) (h1 : t < 4294967296) (u0 : 0 ≤ u) (u1 : u < 4294967296) :
    Calls Try.prog 6 #[.int .u32 t, .int .u32 u] w fun e w' => e = .returned (.bool true) ∧ Below w.heap.size w w' := by
  have hse := fun W => seconds_any W t h0 h1
  have hsu := fun W => seconds_any W u u0 u1
  have ht := ofD_splitD t h0 h1
  have hu := ofD_splitD u u0 u1
  generalize splitD t = x at *
  generalize splitD u = y at *
  by_cases hok : x.Ok
  · simp only [if_pos hok, decide_eq_true hok] at hse
    by_cases hoy : y.Ok
    · simp only [if_pos hoy, decide_eq_true hoy] at hsu
      have hfr := fun W => from_secs W x hok
      have hi := secs_iff hok hoy
      rw [ht, hu] at hi
      rw [ht] at hfr
      clear hok hoy ht hu
      have HFR := Lib.hid hfr; clear hfr
      generalize secsD x = a at *
      generalize secsD y = b at *
      obtain ⟨hi1, hi2⟩ := hi
      rcases Int.lt_trichotomy t u with hlt | heq | hgt
      · have ha : a < b := hi1.1 hlt
        have e1 : (t == u) = false := by rw [beq_eq_false_iff_ne]; omega
        have e2 : (a == b) = false := by rw [beq_eq_false_iff_ne]; omega
        clear hi1 hi2
        have HSE := Lib.hid hse; clear hse
        have HSU := Lib.hid hsu; clear hsu
        go_enter Try.func6, Try.ntmps6
        go_wp2_with fail
        refine (HSE.out _).mono ?_
        rintro e w1 ⟨rfl, hb1⟩
        go_wp2_with fail
        refine (HSU.out _).mono ?_
        rintro e w2 ⟨rfl, hb2⟩
        have hw2 := hb1.trans (hb2.mono hb1.size)
        go_wp2_with fail
        refine (HFR.out _).mono ?_
        rintro e w3 ⟨rfl, hb3⟩
        have hw3 := hw2.trans (hb3.mono hw2.size)
        go_wp2_with fail
        refine (dos_lives _).mono ?_
        rintro e wL ⟨rfl, hbL⟩
        go_wp2_with fail
        go_ret
        exact ⟨rfl, hw3.trans (hbL.mono hw3.size)⟩
      · have ha : a = b := hi2.1 heq
        subst ha
        subst heq
        clear hi1 hi2
        have HSE := Lib.hid hse; clear hse
        have HSU := Lib.hid hsu; clear hsu
        go_enter Try.func6, Try.ntmps6
        go_wp2_with fail
        refine (HSE.out _).mono ?_
        rintro e w1 ⟨rfl, hb1⟩
        go_wp2_with fail
        refine (HSU.out _).mono ?_
        rintro e w2 ⟨rfl, hb2⟩
        have hw2 := hb1.trans (hb2.mono hb1.size)
        go_wp2_with fail
        refine (HFR.out _).mono ?_
        rintro e w3 ⟨rfl, hb3⟩
        have hw3 := hw2.trans (hb3.mono hw2.size)
        go_wp2_with fail
        refine (dos_lives _).mono ?_
        rintro e wL ⟨rfl, hbL⟩
        go_wp2_with fail
        go_ret
        exact ⟨rfl, hw3.trans (hbL.mono hw3.size)⟩
      · have hn : ¬ t < u := by omega
        have ha : ¬ a < b := fun h => hn (hi1.2 h)
        have e1 : (t == u) = false := by rw [beq_eq_false_iff_ne]; omega
        have e2 : (a == b) = false := by rw [beq_eq_false_iff_ne]; intro h; have := hi2.2 h; omega
        clear hi1 hi2
        have HSE := Lib.hid hse; clear hse
        have HSU := Lib.hid hsu; clear hsu
        go_enter Try.func6, Try.ntmps6
        go_wp2_with fail
        refine (HSE.out _).mono ?_
        rintro e w1 ⟨rfl, hb1⟩
        go_wp2_with fail
        refine (HSU.out _).mono ?_
        rintro e w2 ⟨rfl, hb2⟩
        have hw2 := hb1.trans (hb2.mono hb1.size)
        go_wp2_with fail
        refine (HFR.out _).mono ?_
        rintro e w3 ⟨rfl, hb3⟩
        have hw3 := hw2.trans (hb3.mono hw2.size)
        go_wp2_with fail
        refine (dos_lives _).mono ?_
        rintro e wL ⟨rfl, hbL⟩
        go_wp2_with fail
        go_ret
        exact ⟨rfl, hw3.trans (hbL.mono hw3.size)⟩
    · simp only [if_neg hoy, decide_eq_false hoy] at hsu
      clear hok hoy ht hu
      have HSE := Lib.hid hse; clear hse
      have HSU := Lib.hid hsu; clear hsu
      go_enter Try.func6, Try.ntmps6
      go_wp2_with fail
      refine (HSE.out _).mono ?_
      rintro e w1 ⟨rfl, hb1⟩
      go_wp2_with fail
      refine (HSU.out _).mono ?_
      rintro e w2 ⟨rfl, hb2⟩
      have hw2 := hb1.trans (hb2.mono hb1.size)
      have hw3 := hw2
      go_wp2_with fail
      refine (dos_lives _).mono ?_
      rintro e wL ⟨rfl, hbL⟩
      go_wp2_with fail
      go_ret
      exact ⟨rfl, hw3.trans (hbL.mono hw3.size)⟩
  · simp only [if_neg hok, decide_eq_false hok] at hse
    by_cases hoy : y.Ok
    · simp only [if_pos hoy, decide_eq_true hoy] at hsu
      clear hok hoy ht hu
      have HSE := Lib.hid hse; clear hse
      have HSU := Lib.hid hsu; clear hsu
      go_enter Try.func6, Try.ntmps6
      go_wp2_with fail
      refine (HSE.out _).mono ?_
      rintro e w1 ⟨rfl, hb1⟩
      go_wp2_with fail
      refine (HSU.out _).mono ?_
      rintro e w2 ⟨rfl, hb2⟩
      have hw2 := hb1.trans (hb2.mono hb1.size)
      have hw3 := hw2
      go_wp2_with fail
      refine (dos_lives _).mono ?_
      rintro e wL ⟨rfl, hbL⟩
      go_wp2_with fail
      go_ret
      exact ⟨rfl, hw3.trans (hbL.mono hw3.size)⟩
    · simp only [if_neg hoy, decide_eq_false hoy] at hsu
      clear hok hoy ht hu
      have HSE := Lib.hid hse; clear hse
      have HSU := Lib.hid hsu; clear hsu
      go_enter Try.func6, Try.ntmps6
      go_wp2_with fail
      refine (HSE.out _).mono ?_
      rintro e w1 ⟨rfl, hb1⟩
      go_wp2_with fail
      refine (HSU.out _).mono ?_
      rintro e w2 ⟨rfl, hb2⟩
      have hw2 := hb1.trans (hb2.mono hb1.size)
      have hw3 := hw2
      go_wp2_with fail
      refine (dos_lives _).mono ?_
      rintro e wL ⟨rfl, hbL⟩
      go_wp2_with fail
      go_ret
      exact ⟨rfl, hw3.trans (hbL.mono hw3.size)⟩
set_option maxRecDepth 100000 in
theorem dosOrders_walk : Walks 6 Try.f6 := by
  intro H enc W base args ds ps hval hA hlt hsz
  rw [Try.params6] at hA hval
  obtain ⟨v0, v1, d0, d1, p0, p1, rfl, rfl, rfl, h0, h1⟩ := trodAll_two hA
  obtain ⟨t, rfl, rfl, rfl, wt⟩ := open_int Try.underlying22 (hval 0 22 v0 rfl rfl) h0
  obtain ⟨u, rfl, rfl, rfl, wu⟩ := open_int Try.underlying22 (hval 1 22 v1 rfl rfl) h1
  obtain ⟨t0, t1⟩ := bounds_u32 wt
  obtain ⟨u0, u1⟩ := bounds_u32 wu
  exact dosOrders_main t u W (by omega) (by omega) (by omega) (by omega)
end Go.Proofs.Ythmlfeaoaanmoaa
