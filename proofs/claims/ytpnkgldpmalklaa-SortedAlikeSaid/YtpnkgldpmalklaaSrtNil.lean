/- sorted's functions of no map at all. -/
import Derived.Test.YtpnkgldpmalklaaSrtLives
import Derived.Test.YtpnkgldpmalklaaSrtAlikePlain
set_option linter.unusedVariables false
set_option linter.unusedSimpArgs false
namespace Go.Proofs.Ytpnkgldpmalklaa
open Go Go.RowKit Go.Shelf
open Sw
set_option maxRecDepth 100000 in
theorem nilPut_any (w : World) (k : Int) (v : ByteArray) :
    Calls Try.prog 15 #[.pointer none, .int .i64 k, .string v] w fun e w' => e = .returned (.bool false) ∧ w = w' := by
  go_enter Try.func15, Try.ntmps15
  go_wp2_with fail
  go_ret
  exact ⟨rfl, rfl⟩
set_option maxRecDepth 100000 in
theorem nilGet_any (w : World) (k : Int) :
    Calls Try.prog 17 #[.pointer none, .int .i64 k] w fun e w' => e = .returned (.tuple #[.string ⟨#[]⟩, .bool false]) ∧ w = w' := by
  go_enter Try.func17, Try.ntmps17
  go_wp2_with fail
  refine bodyPost_ret (results_tmp2 rfl _ _ _) rfl ⟨rfl, rfl⟩
set_option maxRecDepth 100000 in
theorem nilDrop_any (w : World) (k : Int) :
    Calls Try.prog 18 #[.pointer none, .int .i64 k] w fun e w' => e = .returned (.bool false) ∧ w = w' := by
  go_enter Try.func18, Try.ntmps18
  go_wp2_with fail
  go_ret
  exact ⟨rfl, rfl⟩
set_option maxRecDepth 100000 in
theorem nilLen_any (w : World) :
    Calls Try.prog 20 #[.pointer none] w fun e w' => e = .returned (.int .i64 0) ∧ w = w' := by
  go_enter Try.func20, Try.ntmps20
  go_wp2_with fail
  go_ret
  exact ⟨rfl, rfl⟩
set_option maxRecDepth 100000 in
theorem nilClone_any (w : World) :
    Calls Try.prog 27 #[.pointer none] w fun e w' => e = .returned (.pointer none) ∧ w = w' := by
  go_enter Try.func27, Try.ntmps27
  go_wp2_with fail
  go_ret
  exact ⟨rfl, rfl⟩
set_option maxRecDepth 100000 in
theorem nilNew_any (w : World) :
    Calls Try.prog 12 #[Value.nilFunc] w fun e w' => e = .returned (.pointer none) ∧ w = w' := by
  have hnf : ∀ W, (binOp .eql 27 Value.nilFunc Value.nilFunc).run Try.prog W = .ok (.bool true) W := fun W => rfl
  go_enter Try.func12, Try.ntmps12
  go_wp2_with fail
  go_ret
  exact ⟨rfl, rfl⟩
set_option maxRecDepth 100000 in
theorem nilAll_any (w : World) :
    Calls Try.prog 22 #[.pointer none] w (SeqOfIS [] w) := by
  have HT := Lib.hid (toldIS_any w (.slice none 0 0) [] (Lies.of_own (World.ownsRow_nil w 0 100 2) eCIS_len (by decide)) (fun g hg => by cases hg))
  go_enter Try.func22, Try.ntmps22
  go_wp2_with fail
  refine HT.out.mono ?_
  rintro e w1 ⟨gb, v, rfl, h1, h2, h3, h4, h5⟩
  have HF := Lib.hid (⟨gb, v, rfl, h1, h2, h3, h4, h5⟩ : SeqOfIS [] w (.returned (.func (.func 81) #[] #[.pointer (some ⟨gb, 0, none⟩)])) w1)
  clear h1 h2 h3 h4 h5 HT
  go_wp2_with fail
  go_ret
  exact HF.out
set_option maxRecDepth 100000 in
theorem nilBack_any (w : World) :
    Calls Try.prog 24 #[.pointer none] w (SeqOfIS [] w) := by
  have HT := Lib.hid (toldIS_any w (.slice none 0 0) [] (Lies.of_own (World.ownsRow_nil w 0 100 2) eCIS_len (by decide)) (fun g hg => by cases hg))
  go_enter Try.func24, Try.ntmps24
  go_wp2_with fail
  refine HT.out.mono ?_
  rintro e w1 ⟨gb, v, rfl, h1, h2, h3, h4, h5⟩
  have HF := Lib.hid (⟨gb, v, rfl, h1, h2, h3, h4, h5⟩ : SeqOfIS [] w (.returned (.func (.func 81) #[] #[.pointer (some ⟨gb, 0, none⟩)])) w1)
  clear h1 h2 h3 h4 h5 HT
  go_wp2_with fail
  go_ret
  exact HF.out
set_option maxRecDepth 100000 in
theorem nilFrom_any (w : World) (k : Int) :
    Calls Try.prog 23 #[.pointer none, .int .i64 k] w (SeqOfIS [] w) := by
  have HT := Lib.hid (toldIS_any w (.slice none 0 0) [] (Lies.of_own (World.ownsRow_nil w 0 100 2) eCIS_len (by decide)) (fun g hg => by cases hg))
  go_enter Try.func23, Try.ntmps23
  go_wp2_with fail
  refine HT.out.mono ?_
  rintro e w1 ⟨gb, v, rfl, h1, h2, h3, h4, h5⟩
  have HF := Lib.hid (⟨gb, v, rfl, h1, h2, h3, h4, h5⟩ : SeqOfIS [] w (.returned (.func (.func 81) #[] #[.pointer (some ⟨gb, 0, none⟩)])) w1)
  clear h1 h2 h3 h4 h5 HT
  go_wp2_with fail
  go_ret
  exact HF.out
end Go.Proofs.Ytpnkgldpmalklaa
