/- Several texts, joined for the limit of sixty files; each one opens with its own comment. -/
import Derived.Test.YtlogdionhgabdaaDoorJoin28
import Derived.Test.YtlogdionhgabdaaDoorJoin47
/- Law 39's lives: stat.End at the document's example. -/
set_option linter.unusedVariables false
set_option linter.unusedSimpArgs false
namespace Go.Proofs.YtlogdionhgabdaaDoor
open Go Go.RowKit
open Sw
theorem last_46 (w : World) (s : ByteArray) (hs : s.size ≤ 1000000) :
    Calls Tryd.prog 23 #[.string s, .string ⟨#[46]⟩] w fun e w' => e = .returned (.int .i64 (Lib.lastIndexByte s 46)) ∧ w' = w :=
  Tryd.strings_LastIndex_one s ⟨#[46]⟩ rfl (by omega) w
theorem base39 : baseS ⟨#[97, 47, 98, 46, 116, 120, 116]⟩ = ⟨#[98, 46, 116, 120, 116]⟩ := by kernel_rfl
theorem last39 : Lib.lastIndexByte ⟨#[98, 46, 116, 120, 116]⟩ 46 = 1 := by kernel_rfl
set_option maxRecDepth 100000 in
set_option maxHeartbeats 4000000 in
theorem statEnd_any (w : World) :
    Calls Tryd.prog 15 #[.string ⟨#[97, 47, 98, 46, 116, 120, 116]⟩] w fun e w' => e = .returned (.string ⟨#[116, 120, 116]⟩) ∧ Below w.heap.size w w' := by
  have HB := base_any w ⟨#[97, 47, 98, 46, 116, 120, 116]⟩ (by decide)
  rw [base39] at HB
  have HBB := Lib.hid HB; clear HB
  have HL := Lib.hid (fun W => last39 ▸ last_46 W ⟨#[98, 46, 116, 120, 116]⟩ (by decide))
  go_enter Tryd.func15, Tryd.ntmps15
  go_wp2_with fail
  refine HBB.out.mono ?_
  rintro e w1 ⟨rfl, hb1⟩
  have HB1 := Lib.hid hb1; clear hb1
  go_wp2_with fail
  refine (HL.out _).mono ?_
  rintro e w2 ⟨rfl, rfl⟩
  go_wp2_with fail
  go_ret
  exact ⟨by first | rfl | decide, HB1.out⟩
set_option maxRecDepth 100000 in
set_option maxHeartbeats 4000000 in
theorem lives39 (w : World) :
    Calls Tryd.prog 4 #[] w fun e w' => e = .returned (.bool true) ∧ Below w.heap.size w w' := by
  have HN := Lib.hid (statNew_any w)
  go_enter Tryd.func4, Tryd.ntmps4
  go_wp2_with fail
  refine HN.out.mono ?_
  rintro e w1 ⟨tb, bm, rfl, hT, htb, hbm, hb1⟩
  have HA := Lib.hid (statAdd_any w1 tb bm [] 7 2 hT (by decide) (by decide) (by decide))
  have HB1 := Lib.hid (And.intro hb1 (And.intro htb hbm)); clear hT hb1 htb hbm
  go_wp2_with fail
  refine HA.out.mono ?_
  rintro e w2 ⟨rfl, hT2, hg2⟩
  have hT2' : Tly w2 tb bm [(7, 2)] := hT2
  have HA2 := Lib.hid (statAdd_any w2 tb bm [(7, 2)] 7 3 hT2' (by decide) (by decide) (by decide))
  have HB2 := Lib.hid (HB1.out.1.grown hg2 HB1.out.1.size (fun k hk => by cases hk; exact HB1.out.2.2))
  clear hT2 hT2' hg2
  go_wp2_with fail
  refine HA2.out.mono ?_
  rintro e w3 ⟨rfl, hT3, hg3⟩
  have hT3' : Tly w3 tb bm [(7, 5)] := hT3
  have HT3 := Lib.hid hT3'
  have HB3 := Lib.hid (HB2.out.grown hg3 HB2.out.size (fun k hk => by cases hk; exact HB1.out.2.2))
  clear hT3 hT3' hg3
  have HE := Lib.hid (statEnd_any w3)
  go_wp2_with fail
  refine HE.out.mono ?_
  rintro e w4 ⟨rfl, hb4⟩
  have HT4 := Lib.hid (HT3.out.below hb4)
  have HB4 := Lib.hid (HB3.out.trans (hb4.mono HB3.out.size)); clear hb4
  have ho := statOf_any w4 tb bm [(7, 5)] 7 HT4.out (by decide)
  have HO := Lib.hid (show Calls Tryd.prog 9 #[.pointer (some ⟨tb, 0, none⟩), .int .i64 7] w4 fun e w' => e = .returned (.int .i64 5) ∧ Below w4.heap.size w4 w' from ho)
  clear ho
  go_wp2_with fail
  refine HO.out.mono ?_
  rintro e w5 ⟨rfl, hb5⟩
  have HL := Lib.hid (statLen_any w5 tb bm [(7, 5)] (HT4.out.below hb5))
  have HB5 := Lib.hid (HB4.out.trans (hb5.mono HB4.out.size)); clear hb5
  go_wp2_with fail
  refine HL.out.mono ?_
  rintro e w6 ⟨rfl, hb6⟩
  have HB6 := Lib.hid (HB5.out.trans (hb6.mono HB5.out.size)); clear hb6
  go_wp2_with fail
  go_ret
  exact ⟨by first | rfl | decide, HB6.out⟩
end Go.Proofs.YtlogdionhgabdaaDoor
