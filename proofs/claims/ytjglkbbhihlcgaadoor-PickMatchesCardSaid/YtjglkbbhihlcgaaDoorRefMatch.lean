/- The contract of the reference's Match of layer 42. -/
import Derived.Test.YtjglkbbhihlcgaaDoorRefPartsB
import Derived.Test.YtjglkbbhihlcgaaDoorRefPickRight
import Derived.Test.YtjglkbbhihlcgaaDoorPickMatch
set_option linter.unusedVariables false
set_option linter.unusedSimpArgs false
namespace Go.Proofs.YtjglkbbhihlcgaaDoor
open Go Go.RowKit
open Sw
set_option maxRecDepth 100000 in
set_option maxHeartbeats 4000000 in
theorem refMatch_any (w : World) (p s : ByteArray) (hp : p.size ≤ 100000) (hs : s.size ≤ 100000) :
    Calls Tryd.prog 22 #[.string p, .string s] w fun e w' => e = .returned (.bool (mtS p s)) ∧ Below w.heap.size w w' := by
  have hmt : mtS p s = (pRt p && (rightL s.data.toList && pm (spS p) (spS s))) := rfl
  have HR := Lib.hid (refPickRight_any w p hp)
  have HN := Lib.hid (fun W => refRight_any W s hs)
  have HS1 := Lib.hid (fun W => refSplit_any W p hp)
  have HS2 := Lib.hid (fun W => refSplit_any W s hs)
  have hbl : (spS s).length ≤ 1000000 := by have := spS_len s; omega
  have hz1 : pRt p = true → ∀ x ∈ spS p, x.size ≤ 200 := fun h x hx => by
    unfold pRt at h
    rw [Bool.and_eq_true] at h
    have h1 := of_decide_eq_true h.1
    have h2 := spS_size p x hx
    omega
  have hz2 : rightL s.data.toList = true → ∀ x ∈ spS s, x.size ≤ 200 := fun h x hx => by
    have h1 := (rightL_len h).1
    have h2 := spS_size s x hx
    have h3 : s.data.toList.length = s.size := by simp
    omega
  generalize pRt p = b1 at *
  generalize rightL s.data.toList = b2 at *
  cases b1 with
  | false =>
    rw [Bool.false_and] at hmt
    have HM := Lib.hid hmt; clear hmt hz1 hz2
    go_enter Tryd.func22, Tryd.ntmps22
    go_wp2_with fail
    refine HR.out.mono ?_
    rintro e w1 ⟨rfl, hb1⟩
    go_wp2_with fail
    go_ret
    exact ⟨by rw [HM.out]; first | done | rfl, hb1⟩
  | true =>
    cases b2 with
    | false =>
      rw [Bool.false_and, Bool.and_false] at hmt
      have HM := Lib.hid hmt; clear hmt hz1 hz2
      go_enter Tryd.func22, Tryd.ntmps22
      go_wp2_with fail
      refine HR.out.mono ?_
      rintro e w1 ⟨rfl, hb1⟩
      go_wp2_with fail
      refine (HN.out _).mono ?_
      rintro e w2 ⟨rfl, hb2⟩
      go_wp2_with fail
      go_ret
      exact ⟨by rw [HM.out]; first | done | rfl, hb1.trans (hb2.mono hb1.size)⟩
    | true =>
      rw [Bool.true_and, Bool.true_and] at hmt
      have HM := Lib.hid hmt; clear hmt
      have HZ := Lib.hid (And.intro (hz1 rfl) (And.intro (hz2 rfl) hbl)); clear hz1 hz2 hbl
      generalize spS p = a at *
      generalize spS s = b at *
      go_enter Tryd.func22, Tryd.ntmps22
      go_wp2_with fail
      refine HR.out.mono ?_
      rintro e w1 ⟨rfl, hb1⟩
      go_wp2_with fail
      refine (HN.out _).mono ?_
      rintro e w2 ⟨rfl, hb2⟩
      have z2 := hb1.trans (hb2.mono hb1.size)
      go_wp2_with fail
      refine (HS1.out _).mono ?_
      rintro e w3 ⟨v3, rfl, ow3, hb3⟩
      have z3 := z2.trans (hb3.mono z2.size)
      obtain ⟨A3, c3, rfl, hc3, hm3, s3⟩ := SlV.of_own ow3 bE_len (by omega)
      clear ow3
      go_wp2_with fail
      refine (HS2.out _).mono ?_
      rintro e w4 ⟨v4, rfl, ow4, hb4⟩
      have z4 := z3.trans (hb4.mono z3.size)
      obtain ⟨A4, c4, rfl, hc4, hm4, s4⟩ := SlV.of_own ow4 bE_len (by omega)
      clear ow4
      have HC := Lib.hid (refPartsRec_any a.length w4 A3 A4 c3 c4 a b (Nat.le_refl _) HZ.out.2.2 hc3 hc4 hm3 hm4 (s3.below hb4 (Nat.le_refl _)) s4 HZ.out.1 HZ.out.2.1)
      clear s3 s4
      go_wp2_with fail
      refine HC.out.mono ?_
      rintro e w5 ⟨rfl, hb5⟩
      go_wp2_with fail
      go_ret
      exact ⟨by rw [HM.out]; first | done | rfl, z4.trans (hb5.mono z4.size)⟩
end Go.Proofs.YtjglkbbhihlcgaaDoor
