/- Several texts, joined for the limit of sixty files; each one opens with its own comment. -/
import Derived.Test.YtlogdionhgabdaaDoorJoin22
import Derived.Test.YtlogdionhgabdaaDoorJoin24
import Derived.Test.YtlogdionhgabdaaDoorJoin26
import Derived.Test.YtlogdionhgabdaaDoorJoin18
import Derived.Test.YtlogdionhgabdaaDoorJoin23
/- sorted's iterators over int, int: told, All, From, Back. -/
set_option linter.unusedVariables false
set_option linter.unusedSimpArgs false
namespace Go.Proofs.YtlogdionhgabdaaDoor
open Go Go.RowKit Go.Shelf
open Sw
attribute [local go_sem] Oper.semAt_some
set_option maxRecDepth 100000 in
set_option maxHeartbeats 4000000 in
theorem toldII_tells (n : Nat) (hn : 1 ≤ n) (gb : Nat) (v : Value) (xs : List (Int × Int)) (w : World) (hgb : Blk w gb 52 #[v]) (hv : Lies w 56 2 eCII v xs) (hl : xs.length ≤ 1000000) :
    SeqTells (fun _ => False) Fence.wide n Tryd.prog 50 #[.pointer (some ⟨gb, 0, none⟩)] (fun x : Int × Int => #[Value.int .i64 x.1, (Value.int .i64) x.2]) (KeepIt gb v) (fun ys => ys = xs) (fun pre => pre <+: xs) (fun pre => pre <+: xs) w := fun l J Jx W hW hJ hJx hY hJ0 => by
  have hB := hgb.below hW hgb.lt
  have hL := hv.below hW
  have c0 := hB.cell 0
  simp at c0
  have hL2 := hL
  obtain ⟨A, c, rfl, hc1, hc2, _⟩ := hL2
  have HB := Lib.hid (And.intro hgb hB); clear hgb hB
  have HL := Lib.hid hL; clear hL
  have HV := Lib.hid hv; clear hv
  have HJ := Lib.hid hJ; clear hJ
  have HY := Lib.hid hY; clear hY
  clear hJx
  refine callsIn_of_wp Tryd.func50 rfl trivial ?_ rfl
  simp only [Tryd.ntmps50, List.size_toArray, List.length_cons, List.length_nil, Nat.reduceAdd, Nat.reduceSub, Array.replicate_succ, Array.replicate_zero, List.push_toArray, List.append_toArray, List.nil_append, List.cons_append]
  gi_wp2
  gi_loopw [7] (fun iv wr => ∃ k : Nat, iv = .int .i64 k ∧ k ≤ xs.length ∧ J (xs.take k) wr ∧ KeepIt gb (.slice A xs.length c) W wr) (fun iv _ => xs.length - (intOf iv).toNat)
  case atStart => exact ⟨0, rfl, Nat.zero_le _, hJ0, ⟨Nat.le_refl _, rfl, fun _ _ => rfl⟩⟩
  case round =>
    obtain ⟨k, rfl, hk, hJs, hK⟩ := hrel
    by_cases hlt : k < xs.length
    · have hLr := HL.out.kept (fun g _ hg _ => hK.row g hg)
      obtain ⟨A', c', hA, _, _, hsl⟩ := hLr.slv eCII_len
      obtain ⟨rfl, rfl⟩ : A = A' ∧ c = c' := by injection hA with e1 e2 e3; exact ⟨e1, e3⟩
      obtain ⟨b, off, rfl, hbb, hcs⟩ := hsl (by omega)
      have hr := (hsl.range eCII_len k hlt)
      have hJ1 := HJ.out _ wr (wr.alloc (.cells (eCII xs[k]).toArray 56)) none hJs (grown_alloc (grown_refl wr none) _) (fun r h => by cases h)
      have hK1 : KeepIt gb (.slice (some ⟨b, off, none⟩) xs.length c) W (wr.alloc (.cells (eCII xs[k]).toArray 56)) := hK.trans (.below ((Below.refl wr.heap.size wr).alloc (Nat.le_refl _) _) (Nat.lt_of_lt_of_le HB.out.2.lt hK.size) (fun g hg => by cases hg; exact hbb))
      have htk : xs.take (k + 1) = xs.take k ++ [xs[k]] := by rw [List.take_succ_eq_append_getElem hlt]
      have hy := HY.out (xs.take k) xs[k] _ hJ1 (by rw [← htk]; exact List.take_prefix _ _)
      rw [← htk] at hy
      generalize xs[k] = x at *
      have HQ := Lib.hid (And.intro hJ1 hK1); clear hJ1 hK1 hcs hJs hK hsl hLr htk
      have q0 := hr 0 _ rfl
      have q1 := hr 1 _ rfl
      simp only [Nat.add_zero] at q0 q1
      have hki : (k : Int) < xs.length := by omega
      obtain ⟨fn, tmps, assign, body, hyy, hR⟩ := hy
      try dsimp only at hyy
      simp only [eCII] at hyy hR
      clear hr
      gi_wp2
      refine hR.mono ?_
      rintro e W3 (⟨rfl, hJ3, hk3⟩ | ⟨rfl, hJx3⟩)
      · have hK3 := HQ.out.2.trans hk3
        have HZ := Lib.hid (And.intro hJ3 hK3); clear hJ3 hk3 hK3
        gi_wp2
        go_roundw
        case rel => exact ⟨k + 1, by go_num, by omega, HZ.out.1, HZ.out.2⟩
        case measure => simp [intOf]; omega
      · gi_wp2
        refine bodyPost_ret (results_none rfl _ _ _) rfl ?_
        exact ⟨⟨_, rfl⟩, .inr ⟨_, List.take_prefix _ _, hJx3⟩⟩
    · obtain rfl : k = xs.length := by omega
      rw [List.take_length] at hJs
      gi_wp2
      go_end0
      exact ⟨⟨_, rfl⟩, .inl ⟨_, rfl, hJs⟩⟩
/-- an iterator over the entries xs -/
def SeqOfII (xs : List (Int × Int)) (w : World) (e : Ending) (w' : World) : Prop :=
  ∃ gb v, e = .returned (.func (.func 50) #[] #[.pointer (some ⟨gb, 0, none⟩)]) ∧ Blk w' gb 52 #[v] ∧ Lies w' 56 2 eCII v xs ∧ w.heap.size ≤ gb ∧ (∀ g, v.ownBlock = some g → g < w'.heap.size) ∧ Below w.heap.size w w'
theorem lies_lt {w : World} {te : TypeId} {size : Nat} {α : Type} {E : α → List Value} {v : Value} {l : List α} (h : Lies w te size E v l) (h0 : l = [] → v.ownBlock = none ∨ ∃ g, v.ownBlock = some g ∧ g < w.heap.size) : ∀ g, v.ownBlock = some g → g < w.heap.size := by
  intro g hg
  cases l with
  | nil =>
    rcases h0 rfl with h1 | ⟨g', h1, h2⟩
    · rw [h1] at hg; cases hg
    · rw [h1] at hg; cases hg; exact h2
  | cons x l =>
    obtain ⟨A, c, rfl, _, _, h3⟩ := h
    obtain ⟨g', off, cur, rfl, hb, _⟩ := h3 (by simp)
    cases hg
    exact hb.lt
set_option maxRecDepth 100000 in
theorem toldII_any (w : World) (v : Value) (xs : List (Int × Int)) (hv : Lies w 56 2 eCII v xs) (hb : ∀ g, v.ownBlock = some g → g < w.heap.size) :
    Calls Tryd.prog 41 #[v] w (SeqOfII xs w) := by
  have hbl : Below w.heap.size w (w.alloc (.cells #[v] 52)) := (Below.refl _ _).alloc (Nat.le_refl _) _
  have HF := Lib.hid (⟨w.heap.size, v, rfl, Blk.new _ _ _, hv.below hbl, Nat.le_refl _, fun g hg => by have := hb g hg; simp; omega, hbl⟩ : SeqOfII xs w (.returned (.func (.func 50) #[] #[.pointer (some ⟨w.heap.size, 0, none⟩)])) (w.alloc (.cells #[v] 52)))
  obtain ⟨A, c, rfl, _, _, _⟩ := hv
  clear hb hbl
  go_enter Tryd.func41, Tryd.ntmps41
  go_wp2_with fail
  go_ret
  exact HF.out
theorem SeqOfII.mono {xs : List (Int × Int)} {w w1 : World} {e : Ending} {w' : World} (h : SeqOfII xs w1 e w') (hb : Below w.heap.size w w1) : SeqOfII xs w e w' := by
  obtain ⟨gb, v, he, h1, h2, h3, h4, h5⟩ := h
  exact ⟨gb, v, he, h1, h2, Nat.le_trans hb.size h3, h4, hb.trans (h5.mono hb.size)⟩
set_option maxRecDepth 100000 in
theorem srtAllII_any (w : World) (bm : Nat) (xs : List (Int × Int)) (h : SMapII w bm xs) :
    Calls Tryd.prog 31 #[.pointer (some ⟨bm, 0, none⟩)] w (SeqOfII xs w) := by
  obtain ⟨v, hb, ho⟩ := h.row
  have hL := Lies.of_own ho eCII_len (by decide)
  have hlt := fun g hg => (ho.lt g hg).2
  obtain ⟨A, c, rfl, _, _, _⟩ := SlV_of_any ho
  have HT := Lib.hid (toldII_any w _ xs hL hlt)
  have hv1 : w.cell? ⟨bm, 1, none⟩ = some (.slice A xs.length c) := hb.cell 1
  clear hL hb ho h hlt
  go_enter Tryd.func31, Tryd.ntmps31
  go_wp2_with fail
  refine HT.out.mono ?_
  rintro e w1 ⟨gb, v, rfl, h1, h2, h3, h4, h5⟩
  have HF := Lib.hid (⟨gb, v, rfl, h1, h2, h3, h4, h5⟩ : SeqOfII xs w (.returned (.func (.func 50) #[] #[.pointer (some ⟨gb, 0, none⟩)])) w1)
  clear h1 h2 h3 h4 h5 HT
  go_wp2_with fail
  go_ret
  exact HF.out
end Go.Proofs.YtlogdionhgabdaaDoor
/- stat's tally: its map of counts. -/
set_option linter.unusedVariables false
set_option linter.unusedSimpArgs false
namespace Go.Proofs.YtlogdionhgabdaaDoor
open Go Go.RowKit
open Sw
/-- a tally: the order, and the map -/
def Tly (w : World) (tb bm : Nat) (xs : List (Int × Int)) : Prop := Blk w tb 43 #[ordFII, .pointer (some ⟨bm, 0, none⟩)] ∧ SMapII w bm xs
set_option maxRecDepth 100000 in
theorem statLen_any (w : World) (tb bm : Nat) (xs : List (Int × Int)) (h : Tly w tb bm xs) :
    Calls Tryd.prog 14 #[.pointer (some ⟨tb, 0, none⟩)] w fun e w' => e = .returned (.int .i64 xs.length) ∧ Below w.heap.size w w' := by
  have h1 := h.1.cell 1
  simp at h1
  have HS := Lib.hid h.2
  clear h
  go_enter Tryd.func14, Tryd.ntmps14
  go_wp2_with fail
  refine (srtLenII_any _ _ _ HS.out).mono ?_
  rintro e w2 ⟨rfl, hb⟩
  go_wp2_with fail
  go_ret
  exact ⟨rfl, hb ▸ Below.refl _ _⟩
set_option maxRecDepth 100000 in
theorem statOf_any (w : World) (tb bm : Nat) (xs : List (Int × Int)) (k : Int) (h : Tly w tb bm xs) (hn : xs.length ≤ 1000000) :
    Calls Tryd.prog 9 #[.pointer (some ⟨tb, 0, none⟩), .int .i64 k] w fun e w' => e = .returned (.int .i64 ((getN ordI k xs).getD 0)) ∧ Below w.heap.size w w' := by
  have h1 := h.1.cell 1
  simp at h1
  have HS := Lib.hid h.2
  clear h
  go_enter Tryd.func9, Tryd.ntmps9
  go_wp2_with fail
  refine (srtGetII_any _ _ _ k HS.out hn trivial).mono ?_
  rintro e w2 ⟨rfl, hb⟩
  go_wp2_with fail
  go_ret
  exact ⟨rfl, hb⟩
end Go.Proofs.YtlogdionhgabdaaDoor
