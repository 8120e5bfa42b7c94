/- sorted.Join over int, string: the call. -/
import Derived.Test.YtpnkgldpmalklaaSrtJoinItIS
import Derived.Laws.EntriesVeiled
set_option linter.unusedVariables false
set_option linter.unusedSimpArgs false
namespace Go.Proofs.Ytpnkgldpmalklaa
open Go Go.RowKit Go.Shelf
open Sw
/-- an iterator over two maps side by side -/
def JoinOfIS (xs ys : List (Int × ByteArray)) (w : World) (e : Ending) (w' : World) : Prop :=
  ∃ b1 b2 b3 v1 v2, e = .returned (.func (.func 59) #[] #[.pointer (some ⟨b1, 0, none⟩), .pointer (some ⟨b2, 0, none⟩), .pointer (some ⟨b3, 0, none⟩)]) ∧
    Blk w' b1 93 #[v1] ∧ Blk w' b2 93 #[v2] ∧ Blk w' b3 27 #[ordFIS] ∧ Lies w' 100 2 eCIS v1 xs ∧ Lies w' 100 2 eCIS v2 ys ∧
    (∀ g, v1.ownBlock = some g → g < w'.heap.size) ∧ (∀ g, v2.ownBlock = some g → g < w'.heap.size) ∧ Below w.heap.size w w'
set_option maxRecDepth 100000 in
set_option maxHeartbeats 2000000 in
theorem joinIS_any (w : World) (ba bb : Nat) (xs ys : List (Int × ByteArray)) (h1 : SMapIS w ba xs) (h2 : SMapIS w bb ys) :
    Calls Try.prog 29 #[.pointer (some ⟨ba, 0, none⟩), .pointer (some ⟨bb, 0, none⟩)] w (JoinOfIS xs ys w) := by
  have hnf : ∀ W, (binOp .eql 27 ordFIS Value.nilFunc).run Try.prog W = .ok (.bool false) W := fun W => by kernel_rfl
  have HR1 := Lib.hid (srtRowsIS_any w ba xs h1)
  go_enter Try.func29, Try.ntmps29
  go_wp2_with fail
  refine HR1.out.mono ?_
  rintro e w1 ⟨v1, rfl, ho1, m1, hw1⟩
  have hb1 : Below w.heap.size w w1 := by rw [hw1]; exact below_drewN (Below.refl _ _) m1
  have hL1 := (Lies.of_own ho1 eCIS_len (by decide)).below hb1
  have hlt1 := fun g hg => Nat.lt_of_lt_of_le (ho1.lt g hg).2 hb1.size
  obtain ⟨A1, c1, rfl, _, _, _⟩ := SlV_of_any ho1
  clear hw1 m1 ho1
  have hb2 : Below w.heap.size w ((w1.alloc (.cells #[.slice A1 xs.length c1] 93)).alloc (.cells #[ordFIS] 27)) := (hb1.alloc hb1.size _).alloc (Nat.le_trans hb1.size (by simp)) _
  have hbb : Below w1.heap.size w1 ((w1.alloc (.cells #[.slice A1 xs.length c1] 93)).alloc (.cells #[ordFIS] 27)) := ((Below.refl _ _).alloc (Nat.le_refl _) _).alloc (by simp) _
  have hB1 := blk_fst w1 #[.slice A1 xs.length c1] 93 (.cells #[ordFIS] 27)
  have hB3 := blk_snd w1 (.cells #[.slice A1 xs.length c1] 93) #[ordFIS] 27
  have HR2 := Lib.hid (srtRowsIS_any _ bb ys (h2.below hb2))
  have H1 := Lib.hid (And.intro hB1 (And.intro hB3 (And.intro (hL1.below hbb) (And.intro (fun g hg => Nat.lt_of_lt_of_le (hlt1 g hg) hbb.size : ∀ g, (Value.slice A1 xs.length c1).ownBlock = some g → g < _) hb2)))); clear hB1 hB3 hL1 hlt1 hb2 hbb hb1 HR1 h1 h2
  go_wp2_with fail
  refine HR2.out.mono ?_
  rintro e w2 ⟨v2, rfl, ho2, m2, hw2⟩
  obtain ⟨w3, hw3⟩ : ∃ w3, (w1.alloc (.cells #[.slice A1 xs.length c1] 93)).alloc (.cells #[ordFIS] 27) = w3 := ⟨_, rfl⟩
  rw [hw3] at H1 ho2 hw2
  obtain ⟨T, hT⟩ : ∃ T, w1.heap.size = T := ⟨_, rfl⟩
  rw [hT] at H1
  have hz3 : w3.heap.size = T + 1 + 1 := by rw [← hw3]; simp [hT]
  have hb2 : Below w3.heap.size w3 w2 := by rw [hw2]; exact below_drewN (Below.refl _ _) m2
  have hL2 := (Lies.of_own ho2 eCIS_len (by decide)).below hb2
  have hlt2 := fun g hg => Nat.lt_of_lt_of_le (ho2.lt g hg).2 hb2.size
  obtain ⟨A2, c2, rfl, _, _, _⟩ := SlV_of_any ho2
  have hB1 := H1.out.1.below hb2 H1.out.1.lt
  have hB3 := H1.out.2.1.below hb2 H1.out.2.1.lt
  have hL1 := H1.out.2.2.1.below hb2
  have hlt1 := fun g hg => Nat.lt_of_lt_of_le (H1.out.2.2.2.1 g hg) hb2.size
  have hbw := H1.out.2.2.2.2.trans (hb2.mono H1.out.2.2.2.2.size)
  clear hw2 m2 ho2 hw3
  have hba := (Below.refl w2.heap.size w2).alloc (Nat.le_refl _) (.cells #[.slice A2 ys.length c2] 93)
  have hpst : JoinOfIS xs ys w (.returned (.func (.func 59) #[] #[.pointer (some ⟨T, 0, none⟩), .pointer (some ⟨w2.heap.size, 0, none⟩), .pointer (some ⟨T + 1, 0, none⟩)])) (w2.alloc (.cells #[.slice A2 ys.length c2] 93)) :=
    ⟨T, w2.heap.size, T + 1, .slice A1 xs.length c1, .slice A2 ys.length c2, rfl, hB1.below hba hB1.lt, Blk.new _ _ _, hB3.below hba hB3.lt, hL1.below hba, hL2.below hba, fun g hg => Nat.lt_of_lt_of_le (hlt1 g hg) hba.size, fun g hg => Nat.lt_of_lt_of_le (hlt2 g hg) hba.size, hbw.trans (hba.mono hbw.size)⟩
  have c3 := (hB3.below hba hB3.lt).cell 0
  simp at c3
  have HF := Lib.hid hpst
  clear hpst hB1 hB3 hL1 hL2 hlt1 hlt2 hbw hba hb2 HR2 H1
  go_wp2_with fail
  go_ret
  exact HF.out
end Go.Proofs.Ytpnkgldpmalklaa
