/- sorted's iterators over int, string: told, All, From, Back. -/
import Derived.Test.YtpnkgldpmalklaaSrtMapIS
import Derived.Test.YtpnkgldpmalklaaLies
set_option linter.unusedVariables false
set_option linter.unusedSimpArgs false
namespace Go.Proofs.Ytpnkgldpmalklaa
open Go Go.RowKit Go.Shelf
open Sw
attribute [local go_sem] Oper.semAt_some
set_option maxRecDepth 100000 in
set_option maxHeartbeats 4000000 in
theorem toldIS_stops (n : Nat) (hn : 1 ≤ n) (gb : Nat) (v : Value) (xs : List (Int × ByteArray)) (w : World) (hgb : Blk w gb 93 #[v]) (hv : Lies w 100 2 eCIS v xs) (hl : xs.length ≤ 1000000) :
    SeqStopsK Fence.wide n Try.prog 81 #[.pointer (some ⟨gb, 0, none⟩)] (fun x : Int × ByteArray => #[Value.int .i64 x.1, (Value.string) x.2]) (KeepIt gb v) (fun ys => ys = xs) (fun pre => pre <+: xs) xs.length w := fun l J Jx W hW hJ hJx hY hJ0 => by
  have hB := hgb.below hW hgb.lt
  have hL := hv.below hW
  have c0 := hB.cell 0
  simp at c0
  have hL2 := hL
  obtain ⟨A, c, rfl, hc1, hc2, _⟩ := hL2
  have HB := Lib.hid (And.intro hgb hB); clear hgb hB
  have HL := Lib.hid hL; clear hL
  have HV := Lib.hid hv; clear hv
  have HJ := Lib.hid hJ; clear hJ
  have HY := Lib.hid hY; clear hY
  clear hJx
  refine callsIn_of_wp Try.func81 rfl trivial ?_ rfl
  simp only [Try.ntmps81, List.size_toArray, List.length_cons, List.length_nil, Nat.reduceAdd, Nat.reduceSub, Array.replicate_succ, Array.replicate_zero, List.push_toArray, List.append_toArray, List.nil_append, List.cons_append]
  gi_wp2
  gi_loopw [7] (fun iv wr => ∃ k : Nat, iv = .int .i64 k ∧ k ≤ xs.length ∧ J (xs.take k) wr ∧ KeepIt gb (.slice A xs.length c) W wr) (fun iv _ => xs.length - (intOf iv).toNat)
  case atStart => exact ⟨0, rfl, Nat.zero_le _, hJ0, ⟨Nat.le_refl _, rfl, fun _ _ => rfl⟩⟩
  case round =>
    obtain ⟨k, rfl, hk, hJs, hK⟩ := hrel
    by_cases hlt : k < xs.length
    · have hLr := HL.out.kept (fun g _ hg _ => hK.row g hg)
      obtain ⟨A', c', hA, _, _, hsl⟩ := hLr.slv eCIS_len
      obtain ⟨rfl, rfl⟩ : A = A' ∧ c = c' := by injection hA with e1 e2 e3; exact ⟨e1, e3⟩
      obtain ⟨b, off, rfl, hbb, hcs⟩ := hsl (by omega)
      have hr := (hsl.range eCIS_len k hlt)
      have hJ1 := HJ.out _ wr (wr.alloc (.cells (eCIS xs[k]).toArray 100)) none hJs (grown_alloc (grown_refl wr none) _) (fun r h => by cases h)
      have hK1 : KeepIt gb (.slice (some ⟨b, off, none⟩) xs.length c) W (wr.alloc (.cells (eCIS xs[k]).toArray 100)) := hK.trans (.below ((Below.refl wr.heap.size wr).alloc (Nat.le_refl _) _) (Nat.lt_of_lt_of_le HB.out.2.lt hK.size) (fun g hg => by cases hg; exact hbb))
      have htk : xs.take (k + 1) = xs.take k ++ [xs[k]] := by rw [List.take_succ_eq_append_getElem hlt]
      have hy := HY.out (xs.take k) xs[k] _ hJ1 (by rw [List.length_take]; omega)
      rw [← htk] at hy
      generalize xs[k] = x at *
      have HQ := Lib.hid (And.intro hJ1 hK1); clear hJ1 hK1 hcs hJs hK hsl hLr htk
      have q0 := hr 0 _ rfl
      have q1 := hr 1 _ rfl
      simp only [Nat.add_zero] at q0 q1
      have hki : (k : Int) < xs.length := by omega
      obtain ⟨fn, tmps, assign, body, hyy, hR⟩ := hy
      try dsimp only at hyy
      simp only [eCIS] at hyy hR
      clear hr
      gi_wp2
      refine hR.mono ?_
      rintro e W3 (⟨rfl, hJ3, hk3⟩ | ⟨rfl, hJx3⟩)
      · have hK3 := HQ.out.2.trans hk3
        have HZ := Lib.hid (And.intro hJ3 hK3); clear hJ3 hk3 hK3
        gi_wp2
        go_roundw
        case rel => exact ⟨k + 1, by go_num, by omega, HZ.out.1, HZ.out.2⟩
        case measure => simp [intOf]; omega
      · gi_wp2
        refine bodyPost_ret (results_none rfl _ _ _) rfl ?_
        exact ⟨⟨_, rfl⟩, .inr ⟨_, List.take_prefix _ _, hJx3⟩⟩
    · obtain rfl : k = xs.length := by omega
      rw [List.take_length] at hJs
      gi_wp2
      go_end0
      exact ⟨⟨_, rfl⟩, .inl ⟨_, rfl, hJs⟩⟩
/-- an iterator over the entries xs -/
def SeqOfIS (xs : List (Int × ByteArray)) (w : World) (e : Ending) (w' : World) : Prop :=
  ∃ gb v, e = .returned (.func (.func 81) #[] #[.pointer (some ⟨gb, 0, none⟩)]) ∧ Blk w' gb 93 #[v] ∧ Lies w' 100 2 eCIS v xs ∧ w.heap.size ≤ gb ∧ (∀ g, v.ownBlock = some g → g < w'.heap.size) ∧ Below w.heap.size w w'
theorem lies_lt {w : World} {te : TypeId} {size : Nat} {α : Type} {E : α → List Value} {v : Value} {l : List α} (h : Lies w te size E v l) (h0 : l = [] → v.ownBlock = none ∨ ∃ g, v.ownBlock = some g ∧ g < w.heap.size) : ∀ g, v.ownBlock = some g → g < w.heap.size := by
  intro g hg
  cases l with
  | nil =>
    rcases h0 rfl with h1 | ⟨g', h1, h2⟩
    · rw [h1] at hg; cases hg
    · rw [h1] at hg; cases hg; exact h2
  | cons x l =>
    obtain ⟨A, c, rfl, _, _, h3⟩ := h
    obtain ⟨g', off, cur, rfl, hb, _⟩ := h3 (by simp)
    cases hg
    exact hb.lt
set_option maxRecDepth 100000 in
theorem toldIS_any (w : World) (v : Value) (xs : List (Int × ByteArray)) (hv : Lies w 100 2 eCIS v xs) (hb : ∀ g, v.ownBlock = some g → g < w.heap.size) :
    Calls Try.prog 56 #[v] w (SeqOfIS xs w) := by
  have hbl : Below w.heap.size w (w.alloc (.cells #[v] 93)) := (Below.refl _ _).alloc (Nat.le_refl _) _
  have HF := Lib.hid (⟨w.heap.size, v, rfl, Blk.new _ _ _, hv.below hbl, Nat.le_refl _, fun g hg => by have := hb g hg; simp; omega, hbl⟩ : SeqOfIS xs w (.returned (.func (.func 81) #[] #[.pointer (some ⟨w.heap.size, 0, none⟩)])) (w.alloc (.cells #[v] 93)))
  obtain ⟨A, c, rfl, _, _, _⟩ := hv
  clear hb hbl
  go_enter Try.func56, Try.ntmps56
  go_wp2_with fail
  go_ret
  exact HF.out
theorem SeqOfIS.mono {xs : List (Int × ByteArray)} {w w1 : World} {e : Ending} {w' : World} (h : SeqOfIS xs w1 e w') (hb : Below w.heap.size w w1) : SeqOfIS xs w e w' := by
  obtain ⟨gb, v, he, h1, h2, h3, h4, h5⟩ := h
  exact ⟨gb, v, he, h1, h2, Nat.le_trans hb.size h3, h4, hb.trans (h5.mono hb.size)⟩
set_option maxRecDepth 100000 in
theorem srtAllIS_any (w : World) (bm : Nat) (xs : List (Int × ByteArray)) (h : SMapIS w bm xs) :
    Calls Try.prog 22 #[.pointer (some ⟨bm, 0, none⟩)] w (SeqOfIS xs w) := by
  obtain ⟨v, hb, ho⟩ := h.row
  have hL := Lies.of_own ho eCIS_len (by decide)
  have hlt := fun g hg => (ho.lt g hg).2
  obtain ⟨A, c, rfl, _, _, _⟩ := SlV_of_any ho
  have HT := Lib.hid (toldIS_any w _ xs hL hlt)
  have hv1 : w.cell? ⟨bm, 1, none⟩ = some (.slice A xs.length c) := hb.cell 1
  clear hL hb ho h hlt
  go_enter Try.func22, Try.ntmps22
  go_wp2_with fail
  refine HT.out.mono ?_
  rintro e w1 ⟨gb, v, rfl, h1, h2, h3, h4, h5⟩
  have HF := Lib.hid (⟨gb, v, rfl, h1, h2, h3, h4, h5⟩ : SeqOfIS xs w (.returned (.func (.func 81) #[] #[.pointer (some ⟨gb, 0, none⟩)])) w1)
  clear h1 h2 h3 h4 h5 HT
  go_wp2_with fail
  go_ret
  exact HF.out
set_option maxRecDepth 100000 in
set_option maxHeartbeats 1000000 in
theorem srtFromIS_any (w : World) (bm : Nat) (xs : List (Int × ByteArray)) (k : Int) (h : SMapIS w bm xs) (hn : xs.length ≤ 1000000) (hk : okI k) :
    Calls Try.prog 23 #[.pointer (some ⟨bm, 0, none⟩), Value.int .i64 k] w (SeqOfIS (xs.drop (lbN ordI k xs)) w) := by
  have HS := Lib.hid (srtFindIS_any w bm xs k h hn hk)
  have HM := Lib.hid h; clear h
  have hle := lbN_le (c := ordI) k xs
  unfold FindPostIS at HS
  generalize lbN ordI k xs = i at *
  generalize inN ordI k xs = b at *
  go_enter Try.func23, Try.ntmps23
  go_wp2_with fail
  refine HS.out.mono ?_
  rintro e w1 ⟨rfl, hb1⟩
  obtain ⟨v, hb, ho⟩ := (HM.out.below hb1).row
  have hL := Lies.of_own ho eCIS_len (by decide)
  have hlt := fun g hg => (ho.lt g hg).2
  obtain ⟨A, c, rfl, _, hcm, _⟩ := SlV_of_any ho
  have hv1 : w1.cell? ⟨bm, 1, none⟩ = some (.slice A xs.length c) := hb.cell 1
  cases A with
  | none =>
    have h0 : xs = [] := by
      rcases ho.2 with ⟨_, h⟩ | ⟨g, cap, cur, h, _⟩
      · exact List.length_eq_zero_iff.1 h
      · cases h
    subst h0
    obtain rfl : i = 0 := by simpa using hle
    have hc0 : c = 0 := by
      rcases ho.2 with ⟨h, _⟩ | ⟨g, cap, cur, h, _⟩
      · injection h
      · cases h
    subst hc0
    have HT := Lib.hid (toldIS_any w1 (.slice none 0 0) [] (Lies.nil _ _ _ _) (fun g hg => by cases hg))
    have HB1 := Lib.hid hb1; clear hL hb ho hlt hb1
    go_wp2_with fail
    refine HT.out.mono ?_
    intro e w2 hp
    obtain ⟨gb, v, rfl, h1, h2, h3, h4, h5⟩ := hp.mono HB1.out
    have HF := Lib.hid (⟨gb, v, rfl, h1, h2, h3, h4, h5⟩ : SeqOfIS [] w (.returned (.func (.func 81) #[] #[.pointer (some ⟨gb, 0, none⟩)])) w2)
    clear h1 h2 h3 h4 h5 HT hp
    go_wp2_with fail
    go_ret
    exact HF.out
  | some a0 =>
    obtain ⟨g, rfl⟩ : ∃ g, a0 = ⟨g, 0, none⟩ := by
      rcases ho.2 with ⟨h, _⟩ | ⟨g, cap, cur, h, _⟩
      · cases h
      · injection h with h; exact ⟨g, Option.some.inj h⟩
    obtain ⟨T, hT, hTa, hTb, _⟩ := slice_from (P := Try.prog) 93 100 2 Try.underlying93 (by kernel_rfl) Try.sizeOf100 g 0 xs.length c i (i : Int) rfl hle
    have HT := Lib.hid (toldIS_any w1 (.slice (some T) (xs.length - i) (c - i)) (xs.drop i) (hL.drop eCIS_len i hle T (fun h => by rw [hTa h])) (fun g' hg' => by
      have : T.block = g' := by simpa [Value.ownBlock] using hg'
      rw [← this, hTb]
      exact hlt g rfl))
    have HB1 := Lib.hid hb1; clear hL hb ho hlt hb1 hTa hTb
    go_wp2_with fail
    refine HT.out.mono ?_
    intro e w2 hp
    obtain ⟨gb, v, rfl, h1, h2, h3, h4, h5⟩ := hp.mono HB1.out
    have HF := Lib.hid (⟨gb, v, rfl, h1, h2, h3, h4, h5⟩ : SeqOfIS (xs.drop i) w (.returned (.func (.func 81) #[] #[.pointer (some ⟨gb, 0, none⟩)])) w2)
    clear h1 h2 h3 h4 h5 HT hp
    go_wp2_with fail
    go_ret
    exact HF.out
end Go.Proofs.Ytpnkgldpmalklaa
