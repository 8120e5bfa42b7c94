/- The document's example of layer 25. -/
import Derived.Test.YtpnkgldpmalklaaCommitRead
set_option linter.unusedVariables false
set_option linter.unusedSimpArgs false
namespace Go.Proofs.Ytpnkgldpmalklaa
open Go.RowKit
open Sw
set_option maxRecDepth 100000 in
set_option maxHeartbeats 2000000 in
theorem commit_lives (w : World) : Calls Try.prog 46 #[] w fun e w' => e = .returned (.bool true) ∧ Below w.heap.size w w' := by
  have hm : mOk ((3 : Nat) : Int) ((600 : Nat) : Int) = true := by decide
  have hw := fun W => cWrite_yes 3 600 W hm
  have hr := fun W => cRead_yes 3 600 W hm
  have heq := fun W => eq_mark 3 600 3 600 W
  have hs := fun W => cSectors_any 513 W (by omega)
  have HC := Lib.hid (And.intro hw (And.intro hr hs)); clear hw hr hs
  generalize markL 3 600 = s at *
  clear hm
  go_enter Try.func46, Try.ntmps46
  go_wp2_with (first | (go_at_call 44; refine (HC.out.1 _).mono ?_; rintro e w1 ⟨rfl, h1⟩) | (go_at_call 41; refine (HC.out.2.1 _).mono ?_; rintro e w2 ⟨rfl, h2⟩) | (go_at_call 51; refine (HC.out.2.2 _).mono ?_; rintro e w3 ⟨rfl, rfl⟩))
  go_ret
  exact ⟨rfl, (h1.trans (h2.mono h1.size)).alloc (Nat.le_trans h1.size h2.size) _⟩
end Go.Proofs.Ytpnkgldpmalklaa
