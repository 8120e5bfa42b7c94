/- The reference's device: a sector read, a sector written. -/
import Derived.Test.YtlogdionhgabdaaDevRefA
set_option linter.unusedVariables false
set_option linter.unusedSimpArgs false
namespace Go.Proofs.Ytlogdionhgabdaa
open Go Go.RowKit
open Sw
theorem wetAt_take (l : List (Int × ByteArray)) (j : Nat) (hj : j < l.length) (i : Int) : wetAt (l.take (j + 1)) i = if (l[j]).1 = i then wetAt (l.take j) i ++ [(l[j]).2] else wetAt (l.take j) i := by
  rw [List.take_add_one, List.getElem?_eq_getElem hj]
  exact wetAt_snoc (l.take j) (l[j]).1 (l[j]).2 i
section
variable {w w' : World} {F G : Nat → Prop} {br : Nat} {vS vW : Value} {d : Dv}
set_option maxRecDepth 100000 in
theorem refRead_any (h : RefIn w G br vS vW d) (hok : d.Ok) (hwl : d.wet.length ≤ 1000000) (i : Int) (h0 : -9223372036854775808 ≤ i) (h1 : i ≤ 9223372036854775807) :
    Calls Try.prog 22 #[.pointer (some ⟨br, 0, none⟩), .int .i64 i] w fun e w' => e = .returned (.string (d.read i)) ∧ Below w.heap.size w w' := by
  obtain ⟨AS, cS, rfl, _⟩ := SlV_of_any h.sure
  obtain ⟨AW, cW, rfl, _⟩ := SlV_of_any h.wet
  have b0 := h.box.cell 0
  simp at b0
  by_cases hneg : i < 0
  · have hr : d.read i = ⟨#[]⟩ := by unfold Dv.read; rw [if_pos (Or.inl hneg)]
    rw [hr]
    clear h hok hr
    go_enter Try.func22, Try.ntmps22
    go_wp2_with fail
    go_ret
    exact ⟨rfl, Below.refl _ _⟩
  · by_cases hge : (d.size : Int) ≤ i
    · have hr : d.read i = ⟨#[]⟩ := by unfold Dv.read; rw [if_pos (Or.inr hge)]
      rw [hr]
      clear h hok hr
      go_enter Try.func22, Try.ntmps22
      go_wp2_with fail
      go_ret
      exact ⟨rfl, Below.refl _ _⟩
    · have hr : d.read i = ((wetAt d.wet i).getLast?).getD (d.sure.getD i.toNat zS) := by unfold Dv.read; rw [if_neg (by omega)]
      rw [hr]
      clear hr
      have hnat : ((i.toNat : Nat) : Int) = i := by omega
      obtain ⟨n, hn⟩ : ∃ n : Nat, i = n := ⟨i.toNat, hnat.symm⟩
      subst hn
      have hns : n < d.size := by omega
      obtain ⟨g, cap, cur, hg1, _, hgb, hnc, hcm, hsz, htk⟩ := own_form h.sure (by omega)
      cases hg1
      have hlen := hok.len
      have hcn := h.sure.cells rfl n (.string (d.sure.getD n zS)) (by rw [List.getElem?_map, List.getElem?_eq_getElem (by omega), List.getD_eq_getElem?_getD, List.getElem?_eq_getElem (by omega)]; rfl)
      rw [show ((⟨g, 0, none⟩ : Addr).add n) = ⟨g, n, none⟩ by rw [add_mk, Nat.zero_add]] at hcn
      have htn : ((n : Int)).toNat = n := by omega
      rw [htn]
      obtain ⟨z, hz⟩ : ∃ z, d.sure.getD n zS = z := ⟨_, rfl⟩
      rw [hz] at hcn ⊢
      have b1 := h.box.cell 1
      simp at b1
      have hwv : SlOf w 2 wE AW d.wet := by
        obtain ⟨A', c', he, _, _, hs⟩ := SlV.of_own h.wet (fun _ => rfl) (by decide)
        cases he
        exact hs
      obtain ⟨m, hm⟩ : ∃ m, d.wet.length = m := ⟨_, rfl⟩
      have hsz8 := hok.size
      have HH := Lib.hid (And.intro hwv hm); clear hwv h hok htk hz hlen hge
      rw [HH.out.2] at b1 hwl
      have hlt2 : (n : Int) < d.size := by omega
      go_enter Try.func22, Try.ntmps22
      go_wp2_with fail
      go_loopw [5, 31] (fun s t wr => ∃ j : Nat, j ≤ m ∧ t = .int .i64 j ∧ s = .string (((wetAt (d.wet.take j) n).getLast?).getD z) ∧ Below w.heap.size w wr) (fun _ t _ => m - (intOf t).toNat)
      case atStart => exact ⟨0, Nat.zero_le _, rfl, rfl, Below.refl _ _⟩
      case round =>
        obtain ⟨j, hj, rfl, rfl, hb⟩ := hrel
        by_cases hlt : j < m
        · have hjl : j < d.wet.length := by rw [HH.out.2]; exact hlt
          obtain ⟨b, off, hA, hbb, hcs⟩ := (HH.out.1.below hb (Nat.le_refl _)) (by omega)
          have q0 := hcs j hjl 0 (by omega)
          have q1 := hcs j hjl 1 (by omega)
          simp only [wE, List.getElem?_cons_succ, List.getElem?_cons_zero, Nat.add_zero] at q0 q1
          cases hA
          clear hcs
          have hstep := wetAt_take d.wet j hjl n
          obtain ⟨⟨ka, ks⟩, hx⟩ : ∃ x, d.wet[j] = x := ⟨_, rfl⟩
          rw [hx] at q0 q1 hstep
          simp only at q0 q1 hstep
          have hj1 : (j : Int) < m := by omega
          have HB := Lib.hid ((hb.alloc hb.size (.cells #[.int .i64 ka, .string ks] 59))); clear hb hx
          by_cases hkn : ka = n
          · rw [if_pos hkn] at hstep
            have hres : ((wetAt (d.wet.take (j + 1)) n).getLast?).getD z = ks := by rw [hstep]; simp
            have HS := Lib.hid hres; clear hres hstep
            subst hkn
            go_wp2_with fail
            go_roundw
            case rel => exact ⟨j + 1, by omega, by go_num, by rw [HS.out], HB.out⟩
            case measure => simp [intOf]; omega
          · rw [if_neg hkn] at hstep
            have HS := Lib.hid hstep; clear hstep
            have hkf : (ka == (n : Int)) = false := by simpa using hkn
            clear hkn
            go_wp2_with fail
            go_roundw
            case rel => exact ⟨j + 1, by omega, by go_num, by rw [HS.out], HB.out⟩
            case measure => simp [intOf]; omega
        · obtain rfl : j = m := by omega
          have ht : d.wet.take j = d.wet := List.take_of_length_le (by rw [HH.out.2]; exact Nat.le_refl _)
          rw [ht]
          have HB := Lib.hid hb; clear hb ht
          go_wp2_with fail
          go_ret
          exact ⟨rfl, HB.out⟩
end
end Go.Proofs.Ytlogdionhgabdaa
