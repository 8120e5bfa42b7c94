/- The walk of CommitWrites. -/
import Derived.Test.YtpnkgldpmalklaaLift
import Derived.Test.YtpnkgldpmalklaaCommitRef
import Derived.Test.YtpnkgldpmalklaaCommitLives
set_option linter.unusedVariables false
set_option linter.unusedSimpArgs false
namespace Go.Proofs.Ytpnkgldpmalklaa
open Go.ChangeShapes Go.WideShapes Go.ChangeAt Go.RowKit
open Go.ChangeMaps (open_string shut_string)
open Sw
set_option maxRecDepth 100000 in
set_option maxHeartbeats 4000000 in
theorem writes_walk (tm lm : Int) (s : ByteArray) (w : World) (hs : s.size ≤ maxLen) :
    Calls Try.prog 8 #[.agg #[.int .i64 tm, .int .i64 lm], .string s] w fun e w' => e = .returned (.bool true) ∧ Below w.heap.size w w' := by
  obtain ⟨N, hN⟩ : ∃ N : Nat, min (s.size : Int) 600 = (N : Int) := ⟨(min (s.size : Int) 600).toNat, by omega⟩
  have hNs : N ≤ s.size := by omega
  have HNs := Lib.hid hs
  unfold maxLen at hs
  go_enter Try.func8, Try.ntmps8
  go_wp2_with fail
  have hsz : (s.extract 0 N).size ≤ maxLen := by
    have : (s.extract 0 N).size ≤ s.size := by simp [ByteArray.size_extract]; omega
    exact Nat.le_trans this HNs.out
  generalize s.extract 0 N = s' at *
  have hM0 := Blk.new w 76 #[.int .i64 tm, .int .i64 lm]
  have hB0 : Below w.heap.size w (w.alloc (.cells #[.int .i64 tm, .int .i64 lm] 76)) := (Below.refl _ w).alloc (Nat.le_refl _) _
  have hz0 : (w.alloc (.cells #[.int .i64 tm, .int .i64 lm] 76)).heap.size = w.heap.size + 1 := by simp
  generalize w.alloc (.cells #[.int .i64 tm, .int .i64 lm] 76) = w0 at *
  have hm4 := fun W => And.intro (cRight_any tm lm W) (And.intro (rRight_any tm lm W) (And.intro (cWrite_any tm lm W) (rWrite_any tm lm W)))
  have HM4 := Lib.hid hm4; clear hm4
  by_cases hy : ∃ t l : Nat, mOk t l = true ∧ s'.data.toList = markL t l
  · obtain ⟨t, l, hm, hy⟩ := hy
    obtain rfl : s' = ⟨(markL t l).toArray⟩ := by
      have : s'.data = (markL t l).toArray := by rw [← hy]
      cases s'; congr 1
    have hr := fun W => cRead_yes t l W hm
    have hm2 := fun W => And.intro (rRight_any t l W) (rWrite_any t l W)
    rw [hm, show writeL (t : Int) (l : Int) = markL t l by simp [writeL, hm]] at hm2
    have HM2 := Lib.hid hm2; clear hm2
    generalize markL t l = ml at *
    clear hy hm
    refine (hr _).mono ?_
    rintro e w1 ⟨rfl, h1⟩
    have hM1 := hM0.below h1 hM0.lt
    have hB1 := hB0.trans (h1.mono (by omega))
    have hz1 := h1.size
    clear hM0 hB0 h1 hr
    go_wp2_with fail
    have hM2 := (hM1.alloc (.cells #[.int .i64 t, .int .i64 l] 77)).alloc (.cells #[.int .i64 t, .int .i64 l] 76)
    have hb2 := blk_snd w1 (.cells #[.int .i64 t, .int .i64 l] 77) #[.int .i64 t, .int .i64 l] 76
    have ha2 := (Blk.new w1 77 #[.int .i64 t, .int .i64 l]).alloc (.cells #[.int .i64 t, .int .i64 l] 76)
    have hB2 : Below w.heap.size w ((w1.alloc (.cells #[.int .i64 t, .int .i64 l] 77)).alloc (.cells #[.int .i64 t, .int .i64 l] 76)) := (hB1.alloc (by omega) _).alloc (by simp; omega) _
    generalize (w1.alloc (.cells #[.int .i64 t, .int .i64 l] 77)).alloc (.cells #[.int .i64 t, .int .i64 l] 76) = w2 at *
    have c0 : ∀ n : Held (Aft w2), (HeldW n).cell? ⟨w.heap.size, 0, none⟩ = some (.int .i64 tm) := fun n => (Aft.cell n hM2.lt).trans (by simpa using hM2.cell 0)
    have c1 : ∀ n : Held (Aft w2), (HeldW n).cell? ⟨w.heap.size, 1, none⟩ = some (.int .i64 lm) := fun n => (Aft.cell n hM2.lt).trans (by simpa using hM2.cell 1)
    have HH := Lib.hid (And.intro hM2 (And.intro hb2 (And.intro ha2 hB2))); clear hM2 hb2 ha2 hB2 hM1 hB1
    haveI := Aft.some w2
    generalize mOk tm lm = okm at *
    generalize writeL tm lm = wm at *
    refine wp_region_class (Aft w2) (by kernel_rfl) (by kernel_rfl) (Aft.start w2) ?_
    repeat (go_big_quiet_step (first | with_reducible exact held_below Aft.keep (HM4.out _).1 | with_reducible exact held_below Aft.keep (HM4.out _).2.1 | with_reducible exact held_below Aft.keep (HM4.out _).2.2.1 | with_reducible exact held_below Aft.keep (HM4.out _).2.2.2))
    refine wpQuiet_nil ?_
    rintro _ ⟨nn, rfl⟩
    have HW : Hid (Below w2.heap.size w2 (HeldW nn)) := Lib.hid (HeldW_spec nn)
    have hz2 : w.heap.size ≤ w2.heap.size := HH.out.2.2.2.size
    generalize HeldW nn = w3 at *
    clear c0 c1 nn
    have hb3 := HH.out.2.1.below HW.out HH.out.2.1.lt
    have q0 := hb3.cell 0
    have q1 := hb3.cell 1
    simp at q0 q1
    have HB3 := Lib.hid hb3; clear hb3
    go_wp2_with fail
    refine (HM2.out _).1.mono ?_
    rintro e w4 ⟨rfl, h4⟩
    have hb4 := HB3.out.below h4 HB3.out.lt
    have p0 := hb4.cell 0
    have p1 := hb4.cell 1
    simp at p0 p1
    have H4 := Lib.hid (And.intro h4 hb4); clear h4 hb4 q0 q1
    go_wp2_with (first | (go_at_call 45; refine (HM2.out _).2.mono ?_; rintro e w5 ⟨rfl, h5⟩) | (go_at_call 46; refine (commit_lives _).mono ?_; rintro e w6 ⟨rfl, h6⟩))
    go_ret
    have z3 := HW.out.size
    have z4 := H4.out.1.size
    have z5 := h5.size
    exact ⟨rfl, (((HH.out.2.2.2.trans (HW.out.mono hz2)).trans (H4.out.1.mono (by omega))).trans (h5.mono (by omega))).trans (h6.mono (by omega))⟩
  · have hno : ∀ t l : Nat, mOk t l = true → s'.data.toList ≠ markL t l := fun t l hm e => hy ⟨t, l, hm, e⟩
    clear hy
    have hr := fun W => cRead_no s' W hsz hno
    have he2 : (writeL tm lm == s'.toList) = true → s'.toList = [] := by
      intro he
      have he := eq_of_beq he
      unfold writeL at he
      cases hm : mOk tm lm with
      | false => rw [hm] at he; exact he.symm
      | true =>
        rw [hm, if_pos rfl, ByteArray.toList_eq] at he
        have hb : 0 ≤ tm ∧ 0 ≤ lm := by simp [mOk] at hm; omega
        refine absurd he.symm (hno tm.toNat lm.toNat ?_)
        rw [Int.toNat_of_nonneg hb.1, Int.toNat_of_nonneg hb.2]; exact hm
    have HE := Lib.hid he2; clear he2 hno
    refine (hr _).mono ?_
    rintro e w1 ⟨rfl, h1⟩
    have hM1 := hM0.below h1 hM0.lt
    have hB1 := hB0.trans (h1.mono (by omega))
    have hz1 := h1.size
    clear hM0 hB0 h1 hr
    have heq := fun W => eq_mark 0 0 0 0 W
    go_wp2_with fail
    have hM2 := (hM1.alloc (.cells #[.int .i64 0, .int .i64 0] 77)).alloc (.cells #[.int .i64 0, .int .i64 0] 76)
    have ha2 := (Blk.new w1 77 #[.int .i64 0, .int .i64 0]).alloc (.cells #[.int .i64 0, .int .i64 0] 76)
    have hB2 : Below w.heap.size w ((w1.alloc (.cells #[.int .i64 0, .int .i64 0] 77)).alloc (.cells #[.int .i64 0, .int .i64 0] 76)) := (hB1.alloc (by omega) _).alloc (by simp; omega) _
    generalize (w1.alloc (.cells #[.int .i64 0, .int .i64 0] 77)).alloc (.cells #[.int .i64 0, .int .i64 0] 76) = w2 at *
    have c0 : ∀ n : Held (Aft w2), (HeldW n).cell? ⟨w.heap.size, 0, none⟩ = some (.int .i64 tm) := fun n => (Aft.cell n hM2.lt).trans (by simpa using hM2.cell 0)
    have c1 : ∀ n : Held (Aft w2), (HeldW n).cell? ⟨w.heap.size, 1, none⟩ = some (.int .i64 lm) := fun n => (Aft.cell n hM2.lt).trans (by simpa using hM2.cell 1)
    have HH := Lib.hid (And.intro hM2 (And.intro ha2 hB2)); clear hM2 ha2 hB2 hM1 hB1
    haveI := Aft.some w2
    generalize mOk tm lm = okm at *
    generalize writeL tm lm = wm at *
    refine wp_region_class (Aft w2) (by kernel_rfl) (by kernel_rfl) (Aft.start w2) ?_
    repeat (go_big_quiet_step (first | with_reducible exact held_below Aft.keep (HM4.out _).1 | with_reducible exact held_below Aft.keep (HM4.out _).2.1 | with_reducible exact held_below Aft.keep (HM4.out _).2.2.1 | with_reducible exact held_below Aft.keep (HM4.out _).2.2.2))
    refine wpQuiet_nil ?_
    rintro _ ⟨nn, rfl⟩
    have HW : Hid (Below w2.heap.size w2 (HeldW nn)) := Lib.hid (HeldW_spec nn)
    have hz2 : w.heap.size ≤ w2.heap.size := HH.out.2.2.size
    generalize HeldW nn = w3 at *
    clear c0 c1 nn
    have hm3 := HH.out.1.below HW.out HH.out.1.lt
    have ha3 := HH.out.2.1.below HW.out HH.out.2.1.lt
    have q0 := hm3.cell 0
    have q1 := hm3.cell 1
    have r0 := ha3.cell 0
    have r1 := ha3.cell 1
    simp at q0 q1 r0 r1
    have HA3 := Lib.hid ha3; clear hm3 ha3
    have hw4 := fun W => (HM4.out W).2.2.2
    have HW4 := Lib.hid hw4; clear hw4
    go_wp2_with fail
    refine (HW4.out _).mono ?_
    rintro e w4 ⟨rfl, h4⟩
    have ha4 := HA3.out.below h4 HA3.out.lt
    have p0 := ha4.cell 0
    have p1 := ha4.cell 1
    simp at p0 p1
    have H4 := Lib.hid h4; clear h4 ha4 q0 q1 r0 r1
    cases he : (wm == s'.toList) with
    | false =>
      go_wp2_with (go_at_call 46; refine (commit_lives _).mono ?_; rintro e w6 ⟨rfl, h6⟩)
      go_ret
      have z3 := HW.out.size
      have z4 := H4.out.size
      exact ⟨rfl, ((HH.out.2.2.trans (HW.out.mono hz2)).trans (H4.out.mono (by omega))).trans (h6.mono (by omega))⟩
    | true =>
      have hs0 := HE.out he
      have hs1 : s'.toList.isEmpty = true := by rw [hs0]; rfl
      rw [hs0] at he
      go_wp2_with (go_at_call 46; refine (commit_lives _).mono ?_; rintro e w6 ⟨rfl, h6⟩)
      go_ret
      have z3 := HW.out.size
      have z4 := H4.out.size
      exact ⟨rfl, ((HH.out.2.2.trans (HW.out.mono hz2)).trans (H4.out.mono (by omega))).trans (h6.mono (by omega))⟩
set_option maxRecDepth 100000 in
/-- an argument that is a struct of two ints -/
theorem open_mark {H : Type} {enc : TypeId × Value → H} {w : World} {r : Reach} {b0 : Nat} {v : Value} {d : DataW H} {p : List MemPlace} (hv : Value.okWide Try.prog w r b0 76 v) (h : DataW.Trod enc Try.prog w 0 (fun _ => true) true 76 v d p) :
    ∃ a b : Int, v = .agg #[.int .i64 a, .int .i64 b] := by
  simp only [Value.okWide, Try.underlying76] at hv
  obtain ⟨cs, rfl, hsz, _⟩ := hv
  obtain ⟨fuel, hf⟩ := h
  obtain ⟨hl, hfs⟩ := dec_fields Try.underlying76 (by kernel_rfl) (by kernel_rfl) hf
  have hl2 : cs.toList.length = 2 := hl
  obtain ⟨c0, c1, hc⟩ : ∃ c0 c1, cs.toList = [c0, c1] := by
    match hcs : cs.toList, hl2 with
    | [c0, c1], _ => exact ⟨c0, c1, rfl⟩
  have hcc : cs = #[c0, c1] := Array.ext' hc
  subst hcc
  obtain ⟨v0, n0, y0, e0, h0⟩ := hfs 0 _ rfl
  obtain ⟨v1, n1, y1, e1, h1⟩ := hfs 1 _ rfl
  simp [Value.cells] at e0 e1
  subst e0 e1
  obtain ⟨a, ea, _, _⟩ := DataW.trod_int Try.underlying3 h0
  obtain ⟨b, eb, _, _⟩ := DataW.trod_int Try.underlying3 h1
  simp at ea eb
  exact ⟨a, b, by rw [ea, eb]⟩
set_option maxRecDepth 100000 in
theorem commitWrites_walk : Walks 8 Try.f8 := by
  intro H enc W base args ds ps hval hA hlt hsz
  rw [Try.params8] at hA hval
  obtain ⟨v0, v1, d0, d1, p0, p1, rfl, rfl, rfl, h0, h1⟩ := trodAll_two hA
  obtain ⟨tm, lm, rfl⟩ := open_mark (hval 0 76 v0 rfl rfl) h0
  obtain ⟨s, rfl, rfl, rfl, hs⟩ := open_string Try.underlying9 (hval 1 9 v1 rfl rfl) h1
  exact writes_walk tm lm s W hs
end Go.Proofs.Ytpnkgldpmalklaa
