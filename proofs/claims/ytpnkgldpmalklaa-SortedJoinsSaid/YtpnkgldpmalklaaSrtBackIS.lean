/- sorted.Map[int,string]: Back. -/
import Derived.Test.YtpnkgldpmalklaaSrtToldIS
import Derived.Test.YtpnkgldpmalklaaSlReverseIS
set_option linter.unusedVariables false
set_option linter.unusedSimpArgs false
namespace Go.Proofs.Ytpnkgldpmalklaa
open Go Go.RowKit Go.Shelf
open Sw
set_option maxRecDepth 100000 in
set_option maxHeartbeats 1000000 in
theorem srtBackIS_any (w : World) (bm : Nat) (xs : List (Int × ByteArray)) (h : SMapIS w bm xs) (hn : xs.length ≤ 1000000) :
    Calls Try.prog 24 #[.pointer (some ⟨bm, 0, none⟩)] w (SeqOfIS xs.reverse w) := by
  obtain ⟨v, hb, ho⟩ := h.row
  have HC := Lib.hid (slCloneIS_any eCIS eCIS_len eCIS_one w v xs (SlV.of_own ho eCIS_len (by decide)) hn)
  obtain ⟨A, c, rfl, _, _, _⟩ := SlV_of_any ho
  have hv1 : w.cell? ⟨bm, 1, none⟩ = some (.slice A xs.length c) := hb.cell 1
  clear hb ho h
  go_enter Try.func24, Try.ntmps24
  go_wp2_with fail
  refine HC.out.mono ?_
  rintro e w1 ⟨v1, rfl, ho1, hb1⟩
  have HR := Lib.hid (slReverseIS_any w1 w.heap.size v1 xs.length xs rfl hn ho1)
  have HB1 := Lib.hid hb1; clear hb1
  have HO := Lib.hid ho1; clear ho1
  go_wp2_with fail
  refine HR.out.mono ?_
  rintro e w2 ⟨rfl, ho2, hg2⟩
  have hb2 : Below w.heap.size w w2 := HB1.out.grown hg2 HB1.out.size (fun k hk => (HO.out.lt k hk).1)
  have hrl : xs.reverse.length = xs.length := List.length_reverse
  have ho3 := ho2
  rw [← hrl] at ho3
  have HT := Lib.hid (toldIS_any w2 v1 xs.reverse (Lies.of_own ho3 eCIS_len (by decide)) (fun g hg => (ho2.lt g hg).2))
  have HB2 := Lib.hid hb2; clear hb2 ho2 ho3 hg2 hrl
  go_wp2_with fail
  refine HT.out.mono ?_
  intro e w3 hp
  obtain ⟨gb, v, rfl, h1, h2, h3, h4, h5⟩ := hp.mono HB2.out
  have HF := Lib.hid (⟨gb, v, rfl, h1, h2, h3, h4, h5⟩ : SeqOfIS xs.reverse w (.returned (.func (.func 81) #[] #[.pointer (some ⟨gb, 0, none⟩)])) w3)
  clear h1 h2 h3 h4 h5 HT hp
  go_wp2_with fail
  go_ret
  exact HF.out
end Go.Proofs.Ytpnkgldpmalklaa
