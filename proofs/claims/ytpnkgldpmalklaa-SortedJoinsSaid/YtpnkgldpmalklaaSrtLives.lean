/- The document's example of sorted. -/
import Derived.Test.YtpnkgldpmalklaaSrtAll
import Derived.Test.YtpnkgldpmalklaaSrtPutIS
set_option linter.unusedVariables false
set_option linter.unusedSimpArgs false
namespace Go.Proofs.Ytpnkgldpmalklaa
open Go Go.RowKit Go.Shelf
open Sw
theorem SMapIS.lt2 {w : World} {bm : Nat} {xs : List EnS} (h : SMapIS w bm xs) : bm < w.heap.size := by obtain ⟨v, hb, _⟩ := h.row; exact hb.lt
theorem Own15.slv {w : World} {base : Nat} {u : Value} {l : List EnS} (h : Own15 w base u l) : SlV w 2 eCIS u l := SlV.of_own h eCIS_len (by decide)
theorem Own15.below {w w' : World} {base : Nat} {u : Value} {l : List EnS} (h : Own15 w base u l) (hb : Below w.heap.size w w') : Own15 w' base u l := own_kept h hb
theorem Own15.grown {w w' : World} {base bm : Nat} {u : Value} {l xs : List EnS} (h : Own15 w base u l) (hm : SMapIS w bm xs) (hg : w.grownBy w' (some bm)) : Own15 w' base u l := by
  obtain ⟨v, hb, _⟩ := hm.row
  exact own_grown_typ h hg hb (by decide)
set_option maxRecDepth 100000 in
set_option maxHeartbeats 4000000 in
theorem lives15 (w : World) : Calls Try.prog 11 #[] w fun e w' => e = .returned (.bool true) ∧ Below w.heap.size w w' := by
  have HN := Lib.hid (srtNewIS_any w)
  have HP := Lib.hid (fun W bm xs k v h hn => srtPutIS_any W bm xs k v h hn (trivial : okI k))
  have HA := Lib.hid (fun W bm xs h => srtAllIS_any W bm xs h)
  have HL := Lib.hid (fun W gb v xs m h1 h2 h3 h4 => all15_any W gb v xs m h1 h2 h3 h4)
  go_enter Try.func11, Try.ntmps11
  go_wp2_with fail
  refine HN.out.mono ?_
  rintro e w1 ⟨bm, rfl, hm1, hbm, hb1⟩
  have HM := Lib.hid hm1; clear hm1
  have HB := Lib.hid hb1; clear hb1
  go_wp2_with fail
  refine (HP.out w1 bm [] 3 ⟨#[99]⟩ HM.out (by decide)).mono ?_
  rintro e w2 ⟨rfl, hm2, hg2⟩
  have HM2 := Lib.hid hm2; clear hm2
  have HB2 := Lib.hid (below_grown HB.out hg2 hbm HB.out.size); clear hg2
  go_wp2_with fail
  refine (HP.out w2 bm _ 1 ⟨#[97]⟩ HM2.out (by decide)).mono ?_
  rintro e w3 ⟨rfl, hm3, hg3⟩
  have HM3 := Lib.hid hm3; clear hm3
  have HB3 := Lib.hid (below_grown HB2.out hg3 hbm HB2.out.size); clear hg3
  go_wp2_with fail
  refine (HP.out w3 bm _ 2 ⟨#[98]⟩ HM3.out (by decide)).mono ?_
  rintro e w4 ⟨rfl, hm4, hg4⟩
  have hx : putN ordI 2 (⟨#[98]⟩ : ByteArray) (putN ordI 1 ⟨#[97]⟩ (putN ordI 3 ⟨#[99]⟩ [])) = [(1, ⟨#[97]⟩), (2, ⟨#[98]⟩), (3, ⟨#[99]⟩)] := rfl
  rw [hx] at hm4
  have HM4 := Lib.hid hm4; clear hm4 hx
  have HB4 := Lib.hid (below_grown HB3.out hg4 hbm HB3.out.size); clear hg4
  go_wp2_with fail
  refine (HA.out w4 bm _ HM4.out).mono ?_
  rintro e w5 ⟨gb, v, rfl, hgb, hL, hge, hvb, hb5⟩
  have HT := Lib.hid (HL.out w5 gb v _ 9 hgb hL hvb (by decide)); clear hgb hL hge hvb
  have HB5 := Lib.hid (HB4.out.trans (hb5.mono HB4.out.size)); clear hb5
  go_wp2_with fail
  refine HT.out.mono ?_
  rintro e w6 ⟨u, rfl, ho6, hb6⟩
  have HO6 := Lib.hid (show Own15 w6 w5.heap.size u [(1, ⟨#[97]⟩), (2, ⟨#[98]⟩), (3, ⟨#[99]⟩)] from ho6); clear ho6
  have HB6 := Lib.hid (HB5.out.trans (hb6.mono HB5.out.size)); clear hb6 HT
  have hb7 : Below w6.heap.size w6 (w6.alloc (.cells #[.int .i64 1, .string ⟨#[97]⟩, .int .i64 2, .string ⟨#[98]⟩, .int .i64 3, .string ⟨#[99]⟩] 40)) := (Below.refl _ _).alloc (Nat.le_refl _) _
  have HSM := Lib.hid (ref15Same_yes (w6.alloc (.cells #[.int .i64 1, .string ⟨#[97]⟩, .int .i64 2, .string ⟨#[98]⟩, .int .i64 3, .string ⟨#[99]⟩] 40)) u (.slice (some ⟨w6.heap.size, 0, none⟩) 3 3) [(1, ⟨#[97]⟩), (2, ⟨#[98]⟩), (3, ⟨#[99]⟩)]
    (HO6.out.below hb7).slv (SlV.of_own (n := 3) (base := 0) (own_mk (Nat.zero_le _) (Blk.new _ _ _) (Nat.le_refl _) (by decide) rfl rfl) eCIS_len (by decide)))
  have HB7 := Lib.hid (HB6.out.trans (hb7.mono HB6.out.size)); clear hb7
  go_wp2_with fail
  refine HSM.out.mono ?_
  rintro e w8 ⟨rfl, m, rfl⟩
  go_wp2_with fail
  go_ret
  exact ⟨rfl, below_drewN HB7.out m⟩
end Go.Proofs.Ytpnkgldpmalklaa
