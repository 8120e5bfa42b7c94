/- Several texts, joined for the limit of sixty files; each one opens with its own comment. -/
import Derived.Test.YtlogdionhgabdaaDoorJoin27
/- stat.New, Add, all. -/
set_option linter.unusedVariables false
set_option linter.unusedSimpArgs false
namespace Go.Proofs.YtlogdionhgabdaaDoor
open Go Go.RowKit
open Sw
/-- Add, plainly -/
def addN (k n : Int) (xs : List (Int × Int)) : List (Int × Int) := if n < 1 ∨ 1000000000 < n then xs else putN ordI k ((getN ordI k xs).getD 0 + n) xs
section
variable {w w' : World} {tb bm : Nat} {xs : List (Int × Int)}
theorem Tly.below (h : Tly w tb bm xs) (hb : Below w.heap.size w w') : Tly w' tb bm xs := ⟨h.1.below hb h.1.lt, h.2.below hb⟩
theorem Tly.ne (h : Tly w tb bm xs) : tb ≠ bm := by
  obtain ⟨v, hb, _⟩ := h.2.row
  exact fun e => by subst e; exact Blk.other h.1 hb (by decide) rfl
theorem Tly.grown (h : Tly w tb bm xs) {ys : List (Int × Int)} (hm : SMapII w' bm ys) (hg : w.grownBy w' (some bm)) : Tly w' tb bm ys := ⟨h.1.grown hg (by simpa using h.ne), hm⟩
end
set_option maxRecDepth 100000 in
theorem statNew_any (w : World) :
    Calls Tryd.prog 5 #[ordFII] w fun e w' => ∃ tb bm, e = .returned (.pointer (some ⟨tb, 0, none⟩)) ∧ Tly w' tb bm [] ∧ w.heap.size ≤ tb ∧ w.heap.size ≤ bm ∧ Below w.heap.size w w' := by
  have HN := Lib.hid (srtNewII_any w)
  have hnf : ∀ W, (binOp .eql 27 ordFII Value.nilFunc).run Tryd.prog W = .ok (.bool false) W := fun W => by kernel_rfl
  go_enter Tryd.func5, Tryd.ntmps5
  go_wp2_with fail
  refine HN.out.mono ?_
  rintro e w1 ⟨bm, rfl, hm, hbm, hb1⟩
  have hba := (Below.refl w1.heap.size w1).alloc (Nat.le_refl _) (.cells #[ordFII, .pointer (some ⟨bm, 0, none⟩)] 43)
  have HF := Lib.hid (And.intro (Blk.new w1 43 #[ordFII, .pointer (some ⟨bm, 0, none⟩)]) (And.intro (hm.below hba) (hb1.trans (hba.mono hb1.size))))
  have hsz := hb1.size
  clear hm hb1 hba
  go_wp2_with fail
  go_ret
  exact ⟨_, bm, rfl, ⟨HF.out.1, HF.out.2.1⟩, hsz, hbm, HF.out.2.2⟩
set_option maxRecDepth 100000 in
set_option maxHeartbeats 4000000 in
theorem statAdd_any (w : World) (tb bm : Nat) (xs : List (Int × Int)) (k n : Int) (h : Tly w tb bm xs) (hn : xs.length < 1000) (hv0 : 0 ≤ (getN ordI k xs).getD 0) (hv1 : (getN ordI k xs).getD 0 ≤ 1000000000000) :
    Calls Tryd.prog 7 #[.pointer (some ⟨tb, 0, none⟩), .int .i64 k, .int .i64 n] w fun e w' => e = .returned (.tuple #[]) ∧ Tly w' tb bm (addN k n xs) ∧ w.grownBy w' (some bm) := by
  have h1 := h.1.cell 1
  simp at h1
  have HG := Lib.hid (srtGetII_any w bm xs k h.2 (by omega) trivial)
  have HH := Lib.hid h; clear h
  unfold addN
  by_cases a1 : n < 1
  · rw [if_pos (.inl a1)]
    go_enter Tryd.func7, Tryd.ntmps7
    go_wp2_with fail
    refine bodyPost_ret (results_none rfl _ _ _) rfl ?_
    exact ⟨rfl, HH.out, grown_refl _ _⟩
  · by_cases a2 : 1000000000 < n
    · rw [if_pos (.inr a2)]
      go_enter Tryd.func7, Tryd.ntmps7
      go_wp2_with fail
      refine bodyPost_ret (results_none rfl _ _ _) rfl ?_
      exact ⟨rfl, HH.out, grown_refl _ _⟩
    · rw [if_neg (by omega)]
      obtain ⟨u, hu⟩ : ∃ u, (getN ordI k xs).getD 0 = u := ⟨_, rfl⟩
      rw [hu] at HG hv0 hv1 ⊢
      clear hu
      generalize hin : inN ordI k xs = b at HG
      have HP := Lib.hid (fun W (h : SMapII W bm xs) => srtPutII_any W bm xs k (u + n) h (by omega) trivial)
      have HL := Lib.hid (fun W (h : SMapII W bm xs) => srtLenII_any W bm xs h)
      clear hin
      have hwr : IntKind.i64.wrap (u + n) = u + n := IntWalk.i64_in _ (by omega)
      go_enter Tryd.func7, Tryd.ntmps7
      go_wp2_with fail
      refine HG.out.mono ?_
      rintro e w1 ⟨rfl, hb1⟩
      have HT := Lib.hid (HH.out.below hb1)
      have c1 := HT.out.1.cell 1
      simp at c1
      have HP1 := Lib.hid (HP.out w1 HT.out.2)
      have HL1 := Lib.hid (HL.out w1 HT.out.2)
      have HB1 := Lib.hid hb1; clear hb1
      cases b with
      | true =>
        go_wp2_with fail
        refine HP1.out.mono ?_
        rintro e w2 ⟨rfl, hm2, hg2⟩
        have HZ := Lib.hid (And.intro (HT.out.grown hm2 hg2) (grown_trans (grown_below (row := some bm) HB1.out) hg2)); clear hm2 hg2
        go_wp2_with fail
        go_end0
        exact ⟨rfl, HZ.out.1, HZ.out.2⟩
      | false =>
        obtain ⟨m, hm⟩ : ∃ m, xs.length = m := ⟨_, rfl⟩
        rw [hm] at HL1 hn
        clear hm
        have hlt : (m : Int) < 1000 := by omega
        go_wp2_with fail
        refine HL1.out.mono ?_
        rintro e w3 ⟨rfl, rfl⟩
        go_wp2_with fail
        refine HP1.out.mono ?_
        rintro e w2 ⟨rfl, hm2, hg2⟩
        have HZ := Lib.hid (And.intro (HT.out.grown hm2 hg2) (grown_trans (grown_below (row := some bm) HB1.out) hg2)); clear hm2 hg2
        go_wp2_with fail
        go_end0
        exact ⟨rfl, HZ.out.1, HZ.out.2⟩
set_option maxRecDepth 100000 in
theorem statAll_any (w : World) (tb bm : Nat) (xs : List (Int × Int)) (h : Tly w tb bm xs) :
    Calls Tryd.prog 21 #[.pointer (some ⟨tb, 0, none⟩)] w (SeqOfII xs w) := by
  have HL := Lib.hid (srtAllII_any w bm xs h.2)
  have h1 := h.1.cell 1
  simp at h1
  clear h
  go_enter Tryd.func21, Tryd.ntmps21
  go_wp2_with fail
  refine HL.out.mono ?_
  rintro e w1 ⟨gb, v, rfl, h1, h2, h3, h4, h5⟩
  have HF := Lib.hid (⟨gb, v, rfl, h1, h2, h3, h4, h5⟩ : SeqOfII xs w (.returned (.func (.func 50) #[] #[.pointer (some ⟨gb, 0, none⟩)])) w1)
  clear h1 h2 h3 h4 h5 HL
  go_wp2_with fail
  go_ret
  exact HF.out
end Go.Proofs.YtlogdionhgabdaaDoor
