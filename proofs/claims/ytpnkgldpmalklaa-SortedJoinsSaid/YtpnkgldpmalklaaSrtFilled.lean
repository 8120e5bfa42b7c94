/- The law's filled: a map of entries, and these as they stand. -/
import Derived.Test.YtpnkgldpmalklaaSrtLives
import Derived.Test.YtpnkgldpmalklaaSrtAlikePlain
set_option linter.unusedVariables false
set_option linter.unusedSimpArgs false
namespace Sw
section
variable {κ ν : Type} {c : κ → κ → Int}
theorem putL_up (hO : Ord3 c) : ∀ l : List (κ × ν), Up c (putL c l) := fun l => by
  have go : ∀ (l m : List (κ × ν)), Up c m → Up c (l.foldl (fun m e => putN c e.1 e.2 m) m) := by
    intro l
    induction l with
    | nil => intro m h; exact h
    | cons e l ih => intro m h; rw [List.foldl_cons]; exact ih _ (put_up hO _ _ _ h)
  exact go l [] List.Pairwise.nil
end
end Sw
namespace Go.Proofs.Ytpnkgldpmalklaa
open Go Go.RowKit Go.Shelf
open Sw
set_option maxRecDepth 100000 in
set_option maxHeartbeats 4000000 in
theorem filled15_any (w : World) (A : Option Addr) (n c : Nat) (l : List EnS) (hl : l.length = n) (hn : n ≤ 300) (hnc : n ≤ c) (hsl : SlOf w 2 eCIS A l) :
    Calls Try.prog 28 #[.slice A n c] w fun e w' => ∃ bm u, e = .returned (.tuple #[.pointer (some ⟨bm, 0, none⟩), u]) ∧ SMapIS w' bm (putL ordI l) ∧ Own15 w' w.heap.size u (putL ordI l) ∧ w.heap.size ≤ bm ∧ Below w.heap.size w w' := by
  have HL := Lib.hid hl; clear hl
  have HS := Lib.hid hsl; clear hsl
  have HN := Lib.hid (srtNewIS_any w)
  go_enter Try.func28, Try.ntmps28
  go_wp2_with fail
  refine HN.out.mono ?_
  rintro e w1 ⟨bm, rfl, hm, hbm, hb1⟩
  have HM1 := Lib.hid (And.intro hm hb1); clear hm hb1
  go_wp2_with fail
  go_loopw [5, 11] (fun xv iv wr => ∃ i : Nat, i ≤ n ∧ iv = .int .i64 i ∧ SMapIS wr bm (putL ordI (l.take i)) ∧ Own15 wr w.heap.size xv (putL ordI (l.take i)) ∧ Below w.heap.size w wr) (fun _ iv _ => n - (intOf iv).toNat)
  case atStart => exact ⟨0, Nat.zero_le _, rfl, HM1.out.1, World.ownsRow_nil _ _ _ _, HM1.out.2⟩
  case round =>
    obtain ⟨i, hi, rfl, hm, ho, hb⟩ := hrel
    have hxl := putL_length (c := ordI) (l.take i)
    rw [List.length_take] at hxl
    have hup := putL_up ordI_ord (l.take i)
    by_cases hlt : i < n
    · have hiL : i < l.length := by have := HL.out; omega
      have hsn : putL ordI (l.take (i + 1)) = putN ordI l[i].1 l[i].2 (putL ordI (l.take i)) := by rw [List.take_succ_eq_append_getElem hiL, putL_snoc]
      obtain ⟨b, off, rfl, hbb, hcs⟩ := (HS.out.below hb (Nat.le_refl _)) (by omega)
      have c0 := hcs i hiL 0 (by omega)
      have c1 := hcs i hiL 1 (by omega)
      simp only [eCIS, List.getElem?_cons_succ, List.getElem?_cons_zero, Nat.add_zero] at c0 c1
      clear hcs
      have hi1 : (i : Int) < n := by omega
      obtain ⟨k, v, hkv⟩ : ∃ k v, l[i] = (k, v) := ⟨_, _, rfl⟩
      rw [hkv] at hsn
      simp only [hkv] at c0 c1
      clear hkv
      obtain ⟨W0, hW0⟩ : ∃ W0, wr.alloc (.cells #[.int .i64 k, .string v] 40) = W0 := ⟨_, rfl⟩
      have hbx := Blk.new wr 40 #[.int .i64 k, .string v]
      have hbw : Below wr.heap.size wr (wr.alloc (.cells #[.int .i64 k, .string v] 40)) := (Below.refl _ _).alloc (Nat.le_refl _) _
      have hbne : bm ≠ wr.heap.size := by have := hm.lt2; omega
      rw [hW0] at hbx hbw
      have hm0 := hm.below hbw
      have ho0 := ho.below hbw
      have hb0 := hb.trans (hbw.mono hb.size)
      obtain ⟨xs, hxs⟩ : ∃ xs, putL ordI (l.take i) = xs := ⟨_, rfl⟩
      rw [hxs] at hm0 ho0 hxl hup hsn
      have HSN := Lib.hid hsn
      have HP := Lib.hid (srtPutIS_any W0 bm xs k v hm0 (by omega) (trivial : okI k))
      have HRP := Lib.hid (fun W u (h : Own15 W w.heap.size u xs) => (by
        have := ref15Put_any W u xs k v h.slv (by omega)
        rw [refPut_eq k v xs hup] at this
        exact this : Calls Try.prog 16 #[u, .int .i64 k, .string v] W fun e w' => ∃ r, e = .returned r ∧ Own15 w' W.heap.size r (putN ordI k v xs) ∧ Below W.heap.size W w'))
      have x0 := hbx.cell 0
      have x1 := hbx.cell 1
      simp at x0 x1
      have HQ := Lib.hid (And.intro hm0 (And.intro ho0 (And.intro hb0 hbx)))
      clear hm0 ho0 hb0 hm ho hb hbw hup hsn hxs
      have HW := Lib.hid hW0; clear hW0
      obtain ⟨Ax, cx, rfl, _, _, _⟩ := SlV_of_any HQ.out.2.1
      go_wp2_with fail
      rw [HW.out]
      go_wp2_with fail
      refine HP.out.mono ?_
      rintro e w2 ⟨rfl, hm2, hg2⟩
      have hbx2 := HQ.out.2.2.2.grown hg2 (by simpa using Ne.symm hbne)
      have x0 := hbx2.cell 0
      have x1 := hbx2.cell 1
      simp at x0 x1
      have HQ2 := Lib.hid (And.intro hm2 (And.intro (HQ.out.2.1.grown HQ.out.1 hg2) (below_grown HQ.out.2.2.1 hg2 hbm HQ.out.2.2.1.size)))
      clear hm2 hg2 hbx2
      have HRP2 := Lib.hid (HRP.out w2 _ HQ2.out.2.1)
      go_wp2_with fail
      refine HRP2.out.mono ?_
      rintro e w3 ⟨r, rfl, ho3, hb3⟩
      have HQ3 := Lib.hid (And.intro (HQ2.out.1.below hb3) (And.intro (own_wide ho3 HQ2.out.2.2.size : Own15 w3 w.heap.size r _) (HQ2.out.2.2.trans (hb3.mono HQ2.out.2.2.size))))
      clear ho3 hb3 HRP2 HRP HP
      go_wp2_with fail
      go_roundw
      case rel => exact ⟨i + 1, by omega, by go_num, by rw [HSN.out]; exact HQ3.out.1, by rw [HSN.out]; exact HQ3.out.2.1, HQ3.out.2.2⟩
      case measure => simp [intOf]; omega
    · obtain rfl : i = n := by omega
      rw [List.take_of_length_le (by have := HL.out; omega)] at hm ho
      have HF := Lib.hid (And.intro hm (And.intro ho hb)); clear hm ho hb
      go_wp2_with fail
      go_ret2
      exact ⟨bm, _, rfl, HF.out.1, HF.out.2.1, hbm, HF.out.2.2⟩
end Go.Proofs.Ytpnkgldpmalklaa
