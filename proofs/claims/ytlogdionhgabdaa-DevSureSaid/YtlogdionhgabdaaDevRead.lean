/- A device: reading a sector. -/
import Derived.Test.YtlogdionhgabdaaDevOps
import Derived.Test.YtlogdionhgabdaaShelf
set_option linter.unusedVariables false
set_option linter.unusedSimpArgs false
namespace Go.Proofs.Ytlogdionhgabdaa
open Go Go.RowKit
open Sw
theorem zeroSl (w : World) : (zeroValue 40).run Try.prog w = .ok (.slice none 0 0) w := by kernel_rfl
theorem zeroStr (w : World) : (zeroValue 9).run Try.prog w = .ok (.string ⟨#[]⟩) w := by kernel_rfl
theorem repeatL_zero (n : Nat) : Lib.repeatL [(0 : UInt8)] n = List.replicate n 0 := by
  induction n with
  | zero => rfl
  | succ n ih => rw [List.replicate_succ, ← ih]; rfl
theorem zeros_any (w : World) : Calls Try.prog 26 #[.string ⟨#[0]⟩, .int .i64 512] w fun e w' => e = .returned (.string zS) ∧ Below w.heap.size w w' := by
  refine (Try.strings_Repeat ⟨#[0]⟩ 512 w (by omega) (by decide)).mono ?_
  rintro e w' ⟨rfl, hb⟩
  refine ⟨?_, hb⟩
  show Ending.returned (.string ⟨(Lib.repeatL [(0 : UInt8)] 512).toArray⟩) = _
  rw [repeatL_zero]
  rfl
section
variable {w : World} {F : Nat → Prop} {bd bs bw : Nat} {fS fW : Int → Option Value} {d : Dv}
set_option maxRecDepth 100000 in
theorem devRead_any (h : DevIn w F bd bs bw fS fW d) (hok : d.Ok) (hwl : d.wet.length ≤ 1000000) (i : Int) (h0 : -9223372036854775808 ≤ i) (h1 : i ≤ 9223372036854775807) :
    Calls Try.prog 14 #[.pointer (some ⟨bd, 0, none⟩), .int .i64 i] w fun e w' => e = .returned (.string (d.read i)) ∧ Below w.heap.size w w' := by
  have c1 := h.box.cell 1
  have c2 := h.box.cell 2
  simp at c1 c2
  have hI := I64.mk h0 h1
  have hsz := devSize_any h
  by_cases hneg : i < 0
  · have hr : d.read i = ⟨#[]⟩ := by unfold Dv.read; rw [if_pos (Or.inl hneg)]
    rw [hr]
    go_enter Try.func14, Try.ntmps14
    go_wp2_with fail
    go_ret
    exact ⟨rfl, Below.refl _ _⟩
  · by_cases hge : (d.size : Int) ≤ i
    · have hr : d.read i = ⟨#[]⟩ := by unfold Dv.read; rw [if_pos (Or.inr hge)]
      rw [hr]
      have HS := Lib.hid hsz; clear hsz
      go_enter Try.func14, Try.ntmps14
      go_wp2_with fail
      refine HS.out.mono ?_
      rintro e _ ⟨rfl, rfl⟩
      go_wp2_with fail
      go_ret
      exact ⟨rfl, Below.refl _ _⟩
    · have hr : d.read i = ((wetAt d.wet i).getLast?).getD (d.sure.getD i.toNat zS) := by unfold Dv.read; rw [if_neg (by omega)]
      rw [hr]
      have hsu := h.sureIs.2 i.toNat (by omega)
      rw [show ((i.toNat : Nat) : Int) = i by omega] at hsu
      have HS := Lib.hid hsz; clear hsz
      by_cases hw : wetAt d.wet i = []
      · have hfw := h.wetIs.no i hw
        rw [hw]
        have HH := Lib.hid (And.intro h (And.intro hfw hsu)); clear h hfw hsu hw hr
        rcases hfs : fS i with _ | u
        · have hsu := HH.out.2.2
          rw [hfs] at hsu
          have hz : d.sure.getD i.toNat zS = zS := by simpa using hsu.symm
          rw [show ([] : List ByteArray).getLast?.getD (d.sure.getD i.toNat zS) = zS from hz]
          have HF := Lib.hid hfs; clear hfs hsu hz
          go_enter Try.func14, Try.ntmps14
          go_wp2_with fail
          refine HS.out.mono ?_
          rintro e _ ⟨rfl, rfl⟩
          go_wp2_with (first
            | (at_lookup; refine wpList_lookI rfl _ _ 51 rfl 3 40 Try.underlying3 Try.underlying51 (zeroSl _) bw 8192 fW rfl HH.out.1.wet i rfl hI ?_; rw [HH.out.2.1])
            | (at_lookup; refine wpList_lookI_ok rfl _ _ 50 rfl 3 9 Try.underlying3 Try.underlying50 (zeroStr _) bs 8192 fS rfl HH.out.1.sure i rfl hI ?_; rw [HF.out]))
          refine (zeros_any _).mono ?_
          rintro e w1 ⟨rfl, hb⟩
          go_wp2_with fail
          go_ret
          exact ⟨rfl, hb⟩
        · have hsu := HH.out.2.2
          rw [hfs] at hsu
          have hz : u = .string (d.sure.getD i.toNat zS) := by simpa using hsu
          have HF := Lib.hid hfs; clear hfs hsu
          subst hz
          rw [show ([] : List ByteArray).getLast?.getD (d.sure.getD i.toNat zS) = d.sure.getD i.toNat zS from rfl]
          generalize d.sure.getD i.toNat zS = q at *
          go_enter Try.func14, Try.ntmps14
          go_wp2_with fail
          refine HS.out.mono ?_
          rintro e _ ⟨rfl, rfl⟩
          go_wp2_with (first
            | (at_lookup; refine wpList_lookI rfl _ _ 51 rfl 3 40 Try.underlying3 Try.underlying51 (zeroSl _) bw 8192 fW rfl HH.out.1.wet i rfl hI ?_; rw [HH.out.2.1])
            | (at_lookup; refine wpList_lookI_ok rfl _ _ 50 rfl 3 9 Try.underlying3 Try.underlying50 (zeroStr _) bs 8192 fS rfl HH.out.1.sure i rfl hI ?_; rw [HF.out]))
          go_ret
          exact ⟨rfl, Below.refl _ _⟩
      · obtain ⟨v, hv, ho⟩ := h.wetIs.got i hw
        have hpos : 0 < (wetAt d.wet i).length := List.length_pos_iff.2 hw
        obtain ⟨g, cap, cur, rfl, _, hg, hnc, hcm, hsz, htk⟩ := own_form ho hpos
        have hl := wetAt_len d.wet i
        have hlast := ho.cells rfl ((wetAt d.wet i).length - 1) (.string ((wetAt d.wet i).getLast hw)) (by rw [List.getElem?_map, List.getElem?_eq_getElem (by omega), List.getLast_eq_getElem]; rfl)
        have hres : ((wetAt d.wet i).getLast?).getD (d.sure.getD i.toNat zS) = (wetAt d.wet i).getLast hw := by rw [List.getLast?_eq_some_getLast hw]; rfl
        rw [hres]
        rw [show ((⟨g, 0, none⟩ : Addr).add ((wetAt d.wet i).length - 1)) = ⟨g, (wetAt d.wet i).length - 1, none⟩ by rw [add_mk, Nat.zero_add]] at hlast
        generalize (wetAt d.wet i).getLast hw = r at *
        generalize (wetAt d.wet i).length = n at *
        have hp1 : (0 : Int) < n := by omega
        have w1 : IntKind.i64.wrap ((n : Int) - 1) = n - 1 := IntWalk.i64_in _ (by omega)
        have hn1 : ((n : Int) - 1).toNat = n - 1 := by omega
        have HH := Lib.hid (And.intro h hv); clear h hsu hr hv ho hres htk
        go_enter Try.func14, Try.ntmps14
        go_wp2_with fail
        refine HS.out.mono ?_
        rintro e _ ⟨rfl, rfl⟩
        go_wp2_with (at_lookup; refine wpList_lookI rfl _ _ 51 rfl 3 40 Try.underlying3 Try.underlying51 (zeroSl _) bw 8192 fW rfl HH.out.1.wet i rfl hI ?_; rw [HH.out.2])
        go_ret
        exact ⟨rfl, Below.refl _ _⟩
end
end Go.Proofs.Ytlogdionhgabdaa
