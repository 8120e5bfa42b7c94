/- The contract of pick.Match. -/
import Derived.Test.YtjglkbbhihlcgaaDoorPickRec
set_option linter.unusedVariables false
set_option linter.unusedSimpArgs false
namespace Go.Proofs.YtjglkbbhihlcgaaDoor
open Go Go.RowKit
open Sw
/-- does a pattern match a path? -/
def mtS (p s : ByteArray) : Bool := pRt p && (rightL s.data.toList && pm (spS p) (spS s))
set_option maxRecDepth 100000 in
set_option maxHeartbeats 4000000 in
theorem pickMatch_any (w : World) (p s : ByteArray) (hp : p.size ≤ 100000) (hs : s.size ≤ 100000) :
    Calls Tryd.prog 21 #[.string p, .string s] w fun e w' => e = .returned (.bool (mtS p s)) ∧ Below w.heap.size w w' := by
  have hmt : mtS p s = (pRt p && (rightL s.data.toList && pm (spS p) (spS s))) := rfl
  have HR := Lib.hid (pickRight_any w p hp)
  have HN := Lib.hid (fun W => right_any W s (by omega))
  have HPT := Lib.hid (fun W => parts_any W s hs)
  have HSP := Lib.hid (fun W => splitSl_any W p hp)
  have hr1 : rightL s.data.toList = true → partsS s = spS s := fun h => partsS_right h
  have hz1 : pRt p = true → ∀ x ∈ spS p, x.size ≤ 200 := fun h x hx => by
    unfold pRt at h
    rw [Bool.and_eq_true] at h
    have h1 := of_decide_eq_true h.1
    have h2 := spS_size p x hx
    omega
  have hz2 : rightL s.data.toList = true → ∀ x ∈ spS s, x.size ≤ 200 := fun h x hx => by
    have h1 := (rightL_len h).1
    have h2 := spS_size s x hx
    have h3 : s.data.toList.length = s.size := by simp
    omega
  generalize pRt p = b1 at *
  generalize rightL s.data.toList = b2 at *
  cases b1 with
  | false =>
    rw [Bool.false_and] at hmt
    have HM := Lib.hid hmt; clear hmt hr1 hz1 hz2
    go_enter Tryd.func21, Tryd.ntmps21
    go_wp2_with fail
    refine HR.out.mono ?_
    rintro e w1 ⟨rfl, hb1⟩
    go_wp2_with fail
    go_ret
    exact ⟨by rw [HM.out]; first | done | rfl, hb1⟩
  | true =>
    cases b2 with
    | false =>
      rw [Bool.false_and, Bool.and_false] at hmt
      have HM := Lib.hid hmt; clear hmt hr1 hz1 hz2
      go_enter Tryd.func21, Tryd.ntmps21
      go_wp2_with fail
      refine HR.out.mono ?_
      rintro e w1 ⟨rfl, hb1⟩
      go_wp2_with fail
      refine (HN.out _).mono ?_
      rintro e w2 ⟨rfl, hb2⟩
      go_wp2_with fail
      go_ret
      exact ⟨by rw [HM.out]; first | done | rfl, hb1.trans (hb2.mono hb1.size)⟩
    | true =>
      rw [Bool.true_and, Bool.true_and] at hmt
      have HM := Lib.hid hmt; clear hmt
      have hps := hr1 rfl
      rw [hps] at HPT
      have hza := hz1 rfl
      have hzb := hz2 rfl
      clear hr1 hz1 hz2 hps
      generalize spS p = a at *
      generalize spS s = b at *
      have HZ := Lib.hid (And.intro hza hzb); clear hza hzb
      go_enter Tryd.func21, Tryd.ntmps21
      go_wp2_with fail
      refine HR.out.mono ?_
      rintro e w1 ⟨rfl, hb1⟩
      go_wp2_with fail
      refine (HN.out _).mono ?_
      rintro e w2 ⟨rfl, hb2⟩
      have hbw := hb1.trans (hb2.mono hb1.size)
      go_wp2_with fail
      have hB := Blk.new w2 37 #[Value.nilFunc]
      have c1 := hB.cell 0
      have f1 := hB.frozen 0
      have hba := hbw.alloc hbw.size (.cells #[Value.nilFunc] 37)
      have hsz1 : (w2.alloc (.cells #[Value.nilFunc] 37)).heap.size = w2.heap.size + 1 := by simp
      have hg0 : w.heap.size ≤ w2.heap.size := hbw.size
      generalize w2.heap.size = g at *
      generalize w2.alloc (.cells #[Value.nilFunc] 37) = w3 at *
      simp at c1
      obtain ⟨w4, hw4⟩ : ∃ w4, w3.setCell ⟨g, 0, none⟩ (matchF g) = w4 := ⟨_, rfl⟩
      have hst : (store ⟨g, 0, none⟩ (.func (.func 47) #[] #[.pointer (some ⟨g, 0, none⟩)])).run Tryd.prog w3 = .ok () w4 := by
        rw [run_store _ _ _ _ _ rfl, c1, f1, ← hw4]
        rfl
      have hB4 := hB.put 0 (matchF g)
      have hb4 := hba.setCell (p := ⟨g, 0, none⟩) hg0 (matchF g)
      rw [hw4] at hB4 hb4
      have hcg := hB4.cell 0
      have hgl := hB4.lt
      simp at hcg
      unfold matchF at hcg
      have HST := Lib.hid hst; clear hst hw4 c1 f1 hsz1 hB hba hB4 hbw hb1 hb2
      rw [HST.out]
      simp only [Result.andThen]
      go_wp2_with fail
      go_region_with (first | (go_at_call 45; (with_reducible refine (HSP.out _).mono ?_); rintro e wS ⟨vS, rfl, ⟨AS, cS, rfl, hcS, hmS, sS⟩, hbS⟩; have hcgS := (hbS.cell (p := ⟨g, 0, none⟩) hgl).trans hcg; have hglS := Nat.lt_of_lt_of_le hgl hbS.size) | (go_at_call 31; (with_reducible refine (HPT.out _).mono ?_); rintro e wP ⟨vP, rfl, ⟨AP, cP, rfl, hcP, hmP, sP⟩, hbP⟩; have hcgP := (hbP.cell (p := ⟨g, 0, none⟩) hglS).trans hcgS; have hglP := Nat.lt_of_lt_of_le hglS hbP.size) | (go_at_call 47; (refine (matchRec_any (a.length + b.length) wP g AS AP cS cP a b (Nat.le_refl _) hcS hcP hmS hmP (sS.below hbP (Nat.le_refl _)) sP HZ.out.1 HZ.out.2 hglP hcgP).mono ?_); rintro e wM ⟨rfl, hbM⟩))
      all_goals
        have hx := hb4.drew.trans (hbS.mono hb4.size)
        have hy := hx.trans (hbP.mono hx.size)
        have hz := hy.trans (hbM.mono hy.size)
        go_wp2_with fail
        go_ret
        exact ⟨by rw [HM.out]; first | done | rfl, hz⟩
end Go.Proofs.YtjglkbbhihlcgaaDoor
