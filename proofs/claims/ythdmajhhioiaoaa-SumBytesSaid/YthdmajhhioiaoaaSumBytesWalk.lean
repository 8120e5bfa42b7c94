/- The walk of SumBytes. -/
import Derived.Test.YthdmajhhioiaoaaLift
import Derived.Test.YthdmajhhioiaoaaSumFeed
set_option linter.unusedVariables false
namespace Go.Proofs.Ythdmajhhioiaoaa
open Go.ChangeShapes Go.WideShapes Go.ChangeAt Go.RowKit
open Go.ChangeMaps (open_string shut_string)
open Sw
theorem cut_le (s : ByteArray) (k : Nat) : (s.extract 0 k).size ≤ s.size := by rw [ByteArray.size_extract]; omega
theorem refByte_zero (w : World) (b : Nat) (hb : b < 256) :
    Calls Try.prog 18 #[.int .u32 0, .int .u8 b] w fun e w' => e = .returned (.int .u32 (byteS 0 b : Nat)) ∧ w = w' := refByte_any w 0 b (by omega) hb
theorem feed_two (w : World) (g h : Nat) (cs : Array Value) (x : Nat) (s u : ByteArray) (hx : x < 4294967296) (ht : IsTab cs) (hs : s.size ≤ 2000) (hu : u.size ≤ 2000) (hg : Blk w g 31 cs) (hh : Blk w h 9 #[.string s, .string u]) :
    Calls Try.prog 20 #[.pointer (some ⟨g, 0, none⟩), .int .u32 x, .slice (some ⟨h, 0, none⟩) 2 2] w fun e w' => e = .returned (.int .u32 (feedS x (s ++ u).data.toList : Nat)) ∧ w = w' := by
  have e : feedS x (s ++ u).data.toList = feedL x [s, u] := by
    rw [feedL, feedL, feedL, ByteArray.data_append, Array.toList_append, feedS_append]
  rw [e]
  exact feed_any w g cs x _ 2 2 [s, u] hx hg ht rfl (by unfold maxLen; omega) (SlOf.of_blk1 (e := Value.string) hh rfl) (by
    intro t ht
    simp at ht
    unfold maxLen
    rcases ht with rfl | rfl <;> omega)
theorem feed_nil_one (w : World) (h : Nat) (x : Nat) (s : ByteArray) (hs : s.size ≤ 2000) (hh : Blk w h 9 #[.string s]) :
    Calls Try.prog 20 #[.pointer none, .int .u32 x, .slice (some ⟨h, 0, none⟩) 1 1] w fun e w' => e = .returned (.int .u32 x) ∧ w = w' :=
  feed_nil w x _ 1 1 [s] rfl (by unfold maxLen; omega) (SlOf.of_blk1 (e := Value.string) hh rfl) (by
    intro t ht
    simp at ht
    unfold maxLen
    subst ht; omega)
theorem tab_cell {w : World} {g : Nat} {cs : Array Value} (h : Blk w g 31 cs) (ht : IsTab cs) (b : Nat) (hb : b < 256) : w.cell? ⟨g, b, none⟩ = some (.int .u32 (byteS 0 b : Nat)) := by
  rw [Blk.cell h, ht.2 b hb, byteS_def, Nat.zero_xor]
theorem below_of_alloc (w : World) {o : Obj} {w' : World} (h : Below (w.alloc o).heap.size (w.alloc o) w') : Below w.heap.size w w' :=
  ((Below.refl _ _).alloc (Nat.le_refl _) o).trans (h.mono (by simp))
theorem held_blk {w w' : World} {tb b : Nat} {v : Value} {cs : Array Value} (h : w'.cell? ⟨tb, b, none⟩ = some v ∧ Blk w' tb 31 cs ∧ Below w.heap.size w w') : Blk w' tb 31 cs := h.2.1
theorem held_below {w w' : World} {tb b : Nat} {v : Value} {cs : Array Value} (h : w'.cell? ⟨tb, b, none⟩ = some v ∧ Blk w' tb 31 cs ∧ Below w.heap.size w w') : Below w.heap.size w w' := h.2.2
theorem keep_alloc {w w' : World} {tb b : Nat} {v : Value} {cs : Array Value} (h : w'.cell? ⟨tb, b, none⟩ = some v ∧ Blk w' tb 31 cs ∧ Below w.heap.size w w') (o : Obj) :
    (w'.alloc o).cell? ⟨tb, b, none⟩ = some v ∧ Blk (w'.alloc o) tb 31 cs ∧ Below w.heap.size w (w'.alloc o) :=
  ⟨by rw [Blk.cell (h.2.1.alloc o), ← Blk.cell h.2.1]; exact h.1, h.2.1.alloc o, h.2.2.alloc h.2.2.size o⟩
theorem keep_below {w w' w'' : World} {tb b : Nat} {v : Value} {cs : Array Value} (h : w'.cell? ⟨tb, b, none⟩ = some v ∧ Blk w' tb 31 cs ∧ Below w.heap.size w w') (hb : Below w'.heap.size w' w'') :
    w''.cell? ⟨tb, b, none⟩ = some v ∧ Blk w'' tb 31 cs ∧ Below w.heap.size w w'' :=
  ⟨by rw [Blk.cell (h.2.1.below hb h.2.1.lt), ← Blk.cell h.2.1]; exact h.1, h.2.1.below hb h.2.1.lt, h.2.2.trans (hb.mono h.2.2.size)⟩
set_option maxRecDepth 100000 in
set_option maxHeartbeats 4000000 in
theorem sumBytes_main (x b : Nat) (s u : ByteArray) (w : World) (hx : x < 4294967296) (hb : b < 256) (hs : s.size ≤ maxLen) (hu : u.size ≤ maxLen) :
    Calls Try.prog 4 #[.int .u32 x, .int .u8 b, .agg #[.string s, .string u]] w fun e w' => e = .returned (.bool true) ∧ Below w.heap.size w w' := by
  obtain ⟨v, hv, hvs⟩ := info_tab
  obtain ⟨hz, hzi⟩ := zero_of_info hv
  have HV := Lib.hid hvs; clear hvs
  have HZI := Lib.hid hzi; clear hzi hv
  obtain ⟨n, hns, hn2, hmn⟩ : ∃ n : Nat, n ≤ s.size ∧ n ≤ 2000 ∧ min (s.size : Int) 2000 = (n : Int) := ⟨min s.size 2000, by omega, by omega, by omega⟩
  obtain ⟨m, hms, hm2, hmm⟩ : ∃ m : Nat, m ≤ u.size ∧ m ≤ 2000 ∧ min (u.size : Int) 2000 = (m : Int) := ⟨min u.size 2000, by omega, by omega, by omega⟩
  have hs1 := Lib.hid hs
  have hu1 := Lib.hid hu
  unfold maxLen at hs hu
  go_enter Try.func4, Try.ntmps4
  go_wp2_with fail
  go_quiet (fail)
  go_wp2_with (first | (go_at_call 17; refine (made_any _).mono ?_; rintro e w1 ⟨cs, rfl, htab, hb1⟩; have HTAB := Lib.hid htab; have hb1 := below_of_drewN hb1; clear htab) | (refine wpList_store_row rfl 31 _ _ rfl w1.heap.size cs rfl rfl 31 v (Blk.new _ _ _) (by rw [HTAB.out.1]; exact HZI.out) (by rw [HV.out, HTAB.out.1]) HTAB.out.one ?_; rw [World.setRow_alloc_new]; fail_if_success rfl))
  have hB := Blk.new w1 31 cs
  have hb2 := (below_of_alloc w hb1).alloc (by have := hb1.size; simp at this; omega) (Obj.cells cs 31)
  have hwt : w.heap.size ≤ w1.heap.size := by have := hb1.size; simp at this; omega
  generalize w1.alloc (Obj.cells cs 31) = w2 at *
  generalize w1.heap.size = tb at *
  have hsl : (s.extract 0 n).size ≤ 2000 := by rw [ByteArray.size_extract]; omega
  have hul : (u.extract 0 m).size ≤ 2000 := by rw [ByteArray.size_extract]; omega
  generalize s.extract 0 n = s' at *
  generalize u.extract 0 m = u' at *
  have hc : w2.cell? ⟨tb, b, none⟩ = some (.int .u32 (byteS 0 b : Nat)) := tab_cell hB HTAB.out b hb
  clear hb1
  have hcat : ¬ 9223372036854775807 < s'.size + u'.size := by omega
  have HCAT := Lib.hid (show (s' ++ u').size ≤ maxLen by rw [ByteArray.size_append]; unfold maxLen; omega)
  have HSL := Lib.hid (show s'.size ≤ maxLen by unfold maxLen; omega)
  have hw1 : IntKind.u32.wrap (4294967295 - (x : Int)) = 4294967295 - x := by rw [IntKind.wrap_u32]; omega
  have hw2 : (4294967295 - (x : Int)) % 4294967296 = 4294967295 - x := by omega
  have he2 : ((4294967295 - x : Nat) : Int) = 4294967295 - (x : Int) := by omega
  have hb0 : (0 : Int) ≤ (b : Int) := by omega
  have hb3 : (b : Int) < 256 := by omega
  simp only [List.append_eq, List.cons_append, List.nil_append]
  go_region_held3 (fun w' => w'.cell? ⟨tb, b, none⟩ = some (.int .u32 (byteS 0 b : Nat)) ∧ Blk w' tb 31 cs ∧ Below w.heap.size w w')
    (first | exact ⟨hc, hB, Below.drew hb2⟩ | assumption | exact keep_alloc (w := w) (by assumption) _ | exact keep_below (w := w) (by assumption) hbL | exact keep_below (w := w) (by assumption) hbO)
    (first | (go_at_call 18; first | (((with_reducible refine (refByte_zero _ b hb).mono ?_); rintro e w' ⟨rfl, rfl⟩)) | (((with_reducible refine (refByte_any _ x b hx hb).mono ?_); rintro e w' ⟨rfl, rfl⟩))) | (go_at_call 19; first | (((with_reducible refine (step_any _ tb cs x b hx hb ?_ HTAB.out).mono ?_); exact hB; rintro e w' ⟨rfl, rfl⟩)) | (((with_reducible refine (step_nil _ x b).mono ?_); rintro e w' ⟨rfl, rfl⟩))) | (go_at_call 20; first | (((with_reducible refine (feed_two _ tb _ cs x s' u' hx HTAB.out hsl hul ?_ ?_).mono ?_); exact Blk.alloc hB _; exact Blk.new _ _ _; rintro e w' ⟨rfl, rfl⟩)) | (((with_reducible refine (feed_nil_one _ _ x s' hsl ?_).mono ?_); exact Blk.new _ _ _; rintro e w' ⟨rfl, rfl⟩))) | (go_at_call 21; refine (refFeed_any _ x (s' ++ u') hx ?_).mono ?_; exact HCAT.out; rintro e w' ⟨rfl, rfl⟩) | (go_at_call 22; refine (sumOf_any _ s' ?_).mono ?_; exact HSL.out; rintro e wO ⟨rfl, hbO⟩) | (go_at_call 23; refine (refOf_any _ s' ?_).mono ?_; exact HSL.out; rintro e w' ⟨rfl, rfl⟩) | (go_at_call 24; refine (begin_any _).mono ?_; rintro e w' ⟨rfl, rfl⟩) | (go_at_call 25; refine (end_any _ x hx).mono ?_; rintro e w' ⟨rfl, rfl⟩) | (go_at_call 26; refine (sum_lives _).mono ?_; rintro e wL ⟨rfl, hbL⟩))
  have hfin := held_below (w := w) (w' := wL) (tb := tb) (b := b) (cs := cs) (v := .int .u32 (byteS 0 b : Nat)) (by assumption)
  go_wp2
  go_ret
  exact ⟨rfl, hfin⟩
theorem dec_str {H : Type} {enc : TypeId × Value → H} {w : World} (fuel : Nat) (c : Value) (x : DataW H × List MemPlace) (h : DataW.trod enc Try.prog w 0 (fun _ => true) true fuel 9 [c] = some x) :
    ∃ s : ByteArray, c = .string s ∧ s.size ≤ maxLen := by
  obtain ⟨s, hs, _, hl⟩ := DataW.trod_string Try.underlying9 h
  exact ⟨s, by simpa using hs, hl⟩
theorem sumBytes_walk : Walks 4 Try.f4 := by
  intro H enc W base args ds ps hval hA hlt hsz
  rw [Try.params4] at hA hval
  obtain ⟨v0, v1, v2, d0, d1, d2, p0, p1, p2, rfl, rfl, rfl, h0, h1, h2⟩ := trodAll_three hA
  obtain ⟨x, rfl, rfl, rfl, wx⟩ := open_int Try.underlying28 (hval 0 28 v0 rfl rfl) h0
  obtain ⟨b, rfl, rfl, rfl, wb⟩ := open_int Try.underlying5 (hval 1 5 v1 rfl rfl) h1
  obtain ⟨l, rfl, hl, hv⟩ := open_array_dec (n := 2) Value.string (fun s => s.size ≤ maxLen) Try.underlying29 (by kernel_rfl) (by kernel_rfl) dec_str (hval 2 29 v2 rfl rfl) h2
  obtain ⟨x0, x1⟩ := bounds_u32 wx
  obtain ⟨b0, b1⟩ := bounds_u8 wb
  obtain ⟨x, rfl⟩ := Int.eq_ofNat_of_zero_le x0
  obtain ⟨b, rfl⟩ := Int.eq_ofNat_of_zero_le b0
  obtain ⟨s, u, rfl⟩ : ∃ s u, l = [s, u] := by
    match l, hl with
    | [s, u], _ => exact ⟨s, u, rfl⟩
  exact sumBytes_main x b s u W (by omega) (by omega) (hv s (by simp)) (hv u (by simp))
end Go.Proofs.Ythdmajhhioiaoaa
