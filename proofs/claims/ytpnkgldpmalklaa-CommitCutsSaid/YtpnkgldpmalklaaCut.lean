/- commit.Cut: a text's sectors. -/
import Derived.Test.YtpnkgldpmalklaaChunk
set_option linter.unusedVariables false
set_option linter.unusedSimpArgs false
namespace Go.Proofs.Ytpnkgldpmalklaa
open Go Go.RowKit Go.Shelf
open Sw
attribute [local go_sem] Oper.semAt_some
/-- the sector number i of bytes -/
def chunkB (l : List UInt8) (i : Nat) : ByteArray := ⟨((l.drop (512 * i)).take 512).toArray⟩
def chunksL (l : List UInt8) (K : Nat) : List ByteArray := (List.range K).map (chunkB l)
theorem flat_sE (l : List ByteArray) : l.flatMap sE = l.map Value.string := by
  induction l with
  | nil => rfl
  | cons a l ih => rw [List.flatMap_cons, ih]; rfl
theorem info_str : (Try.prog.info? 9).map (fun i => (i.zero, i.size, i.bytes)) = some (some (.string ⟨#[]⟩), 1, 16) := by kernel_rfl
theorem results_cell_sl {P : Program} {fn : Func} {p : Tmp} {ty e : TypeId} (h : fn.results = #[.cell p ty]) (tmps : Array Value) (w : World) (g : Nat) (t : TypeId) (v : Value)
    (hp : tmps.getD p undef = .pointer (some ⟨g, 0, none⟩)) (hg : Blk w g t #[v]) (hu : P.underlying ty = some (.slice e)) : (results fn tmps).run P w = .ok v w := by
  have hp' : tmps[p]?.getD undef = .pointer (some ⟨g, 0, none⟩) := by simpa using hp
  have hc : w.cell? ⟨g, 0, none⟩ = some v := by have := hg.cell 0; simpa using this
  simp [results, h, hp', asAddr, loadVar, isAgg, run_underlying hu, run_load, hc]
/-- bytes that can be read -/
def BAt (W : World) (g : Nat) (l : List UInt8) : Prop := ∀ j (hj : j < l.length), W.cell? ⟨g, j, none⟩ = some (.int .u8 (l[j].toNat : Int))
theorem BAt.grown {W W' : World} {g : Nat} {l : List UInt8} {row : Option Nat} (h : BAt W g l) (hg : W.grownBy W' row) (hne : some g ≠ row) : BAt W' g l := fun j hj => hg.cell (h j hj) hne
theorem BAt.far {W : World} {g : Nat} {l : List UInt8} (h : BAt W g l) {p : Addr} (hp : g ≠ p.block) (v : Value) : BAt (W.setCell p v) g l := fun j hj =>
  (World.cell?_setCell_other W p ⟨g, j, none⟩ v (by intro e; exact hp (congrArg Addr.block e).symm)).trans (h j hj)
theorem BAt.below {W W' : World} {g B : Nat} {l : List UInt8} (h : BAt W g l) (hb : Below B W W') (hg : g < B) : BAt W' g l := fun j hj => (hb.cell (p := ⟨g, j, none⟩) hg).trans (h j hj)
theorem run_bytes2 {P : Program} (w : World) (src dst e : TypeId) (s : ByteArray) (hs : P.underlying src = some .string) (hd : P.underlying dst = some (.slice e)) (he : P.underlying e = some (.int .u8)) (hsm : s.size ≤ maxLen) :
    ∃ cap w', (convert src dst (.string s)).run P w = .ok (.slice (some ⟨w.heap.size, 0, none⟩) s.size cap) w' ∧ Below w.heap.size w w' ∧ w'.heap.size = w.heap.size + 1 ∧ BAt w' w.heap.size s.data.toList ∧ s.size ≤ cap ∧ cap ≤ maxLen := by
  refine ⟨_, _, run_bytes_of_string w src dst e s hs hd he, (Below.refl _ _).drew.alloc (Nat.le_refl _) _, by simp, ?_, grownCap_ge _ _ _ _, grownCap_le_maxLen _ _ _ _ hsm⟩
  intro j hj
  have hj' : j < s.data.size := by simpa using hj
  have hc := World.cell?_alloc_mark w.drew (bytesRow s (grownCap w s.size 0 e)) e ((bytesRow s (grownCap w s.size 0 e)).size, (bytesRow s (grownCap w s.size 0 e)).size + 1) j
  rw [bytesRow_at s _ j hj'] at hc
  simpa using hc
/-- a piece of bytes that can be read, as a text -/
theorem conv_chunk {P : Program} {W : World} {g : Nat} {l : List UInt8} (h : BAt W g l) (src dst e : TypeId) (hs : P.underlying src = some (.slice e)) (he : P.underlying e = some (.int .u8)) (hd : P.underlying dst = some .string) (x : Nat) (hx : 512 * x + 512 ≤ l.length) :
    (convert src dst (.slice (some ⟨g, 512 * x, none⟩) 512 512)).run P W = .ok (.string (chunkB l x)) W := by
  have hl : ((l.drop (512 * x)).take 512).length = 512 := by rw [List.length_take, List.length_drop]; omega
  have h2 := run_convert_bytes_back W src dst e ⟨g, 512 * x, none⟩ 512 ((l.drop (512 * x)).take 512) hs he hd (fun j hj => by
    rw [hl] at hj
    rw [add_mk, h (512 * x + j) (by omega)]
    rw [List.getElem_take, List.getElem_drop])
  rw [hl] at h2
  exact h2
theorem row0 {w : World} {base : Nat} {e : TypeId} {size : Nat} {v : Value} {n : Nat} {xs : List Value} (h : w.ownsRow base e size v n xs) : w.ownsRow 0 e size v n xs :=
  ⟨h.1, h.2.imp id (fun ⟨g, cap, cur, hv, _, r⟩ => ⟨g, cap, cur, hv, Nat.zero_le _, r⟩)⟩
set_option maxRecDepth 100000 in
set_option maxHeartbeats 4000000 in
theorem cut_any (s : ByteArray) (w : World) (hs : s.size ≤ 2000) (K : Nat) (hK : K = (s.size + 511) / 512) :
    Calls Try.prog 50 #[.string s] w fun e w' => ∃ v, e = .returned v ∧ SlV w' 1 sE v (chunksL (padL s.data.toList) K) ∧ Below w.heap.size w w' := by
  obtain ⟨i0, hi, hz0, hz1, hz2⟩ := info_parts info_str
  have hpad := fun W => cPad_any s W (by omega)
  have hsl : s.data.toList.length = s.size := by rw [Array.length_toList]; rfl
  have hpl : (padL s.data.toList).length = 512 * K := by
    unfold padL
    rw [List.length_append, List.length_replicate, hsl]; omega
  have hKb : K ≤ 4 := by omega
  obtain ⟨p, hp⟩ : ∃ p, p = padL s.data.toList := ⟨_, rfl⟩
  rw [← hp] at hpad hpl ⊢
  clear hp hK hsl
  have hpz : ({ data := p.toArray } : ByteArray).size = 512 * K := by show p.toArray.size = _; simp [hpl]
  refine callsIn_wide.1 (?_ : CallsIn Fence.wide 9 _ _ _ _ _)
  refine callsIn_of_wp_marks Try.func50 rfl trivial ?_ rfl
  simp only [Try.ntmps50, List.size_toArray, List.length_cons, List.length_nil, Nat.reduceAdd, Nat.reduceSub, Array.replicate_succ, Array.replicate_zero, List.push_toArray, List.append_toArray, List.nil_append, List.cons_append]
  gi_wp2
  refine ⟨trivial, ?_⟩
  refine (callsIn_wide.2 (hpad _)).mono ?_
  rintro e w1 ⟨rfl, h1⟩
  have hT1 := (Blk.new w 88 #[.slice none 0 0]).below h1 (by simp)
  have hB1 : Below w.heap.size w w1 := ((Below.refl _ w).alloc (Nat.le_refl _) (.cells #[.slice none 0 0] 88)).trans (h1.mono (by simp))
  have hz1' : w.heap.size + 1 ≤ w1.heap.size := by have := h1.size; simpa using this
  obtain ⟨cap, w2, hconv, hb2, hsz2, hat2, hcap1, hcap2⟩ := run_bytes2 (P := Try.prog) w1 9 85 5 ⟨p.toArray⟩ Try.underlying9 Try.underlying85 Try.underlying5 (by rw [hpz]; unfold maxLen; omega)
  rw [hpz] at hconv hcap1
  unfold maxLen at hcap2
  replace hat2 : BAt w2 w1.heap.size p := hat2
  gi_wp2
  refine ⟨trivial, ?_⟩
  refine (callsIn_wide.2 (chunk_any w2 (.slice (some ⟨w1.heap.size, 0, none⟩) (512 * K) cap) rfl)).mono ?_
  rintro e w4 ⟨rfl, rfl⟩
  obtain ⟨T, hT⟩ : ∃ T, T = w.heap.size := ⟨_, rfl⟩
  obtain ⟨G, hG⟩ : ∃ G, G = w1.heap.size := ⟨_, rfl⟩
  rw [← hG] at hat2 ⊢
  have hTG : T < G := by omega
  have hs0 : ((w2.alloc (.cells #[.slice (some ⟨G, 0, none⟩) (512 * K) cap] 85)).alloc (.cells #[.int .i64 512] 3)).cell? ⟨w2.heap.size, 0, none⟩ = some (.slice (some ⟨G, 0, none⟩) (512 * K) cap) := (blk_fst w2 #[.slice (some ⟨G, 0, none⟩) (512 * K) cap] 85 (.cells #[.int .i64 512] 3)).cell 0
  have hs1 : ((w2.alloc (.cells #[.slice (some ⟨G, 0, none⟩) (512 * K) cap] 85)).alloc (.cells #[.int .i64 512] 3)).cell? ⟨w2.heap.size + 1, 0, none⟩ = some (.int .i64 512) := (blk_snd w2 (.cells #[.slice (some ⟨G, 0, none⟩) (512 * K) cap] 85) #[.int .i64 512] 3).cell 0
  have hb4 : Below w2.heap.size w2 ((w2.alloc (.cells #[.slice (some ⟨G, 0, none⟩) (512 * K) cap] 85)).alloc (.cells #[.int .i64 512] 3)) := ((Below.refl _ _).alloc (Nat.le_refl _) _).alloc (by simp) _
  have hz4 : ((w2.alloc (.cells #[.slice (some ⟨G, 0, none⟩) (512 * K) cap] 85)).alloc (.cells #[.int .i64 512] 3)).heap.size = w2.heap.size + 1 + 1 := by simp
  have hT4 := (hT1.below hb2 (by omega)).below hb4 (by omega)
  have hA4 := hat2.below hb4 (by omega)
  have hB4 := (hB1.trans (hb2.mono (by omega))).trans (hb4.mono (by omega))
  generalize ((w2.alloc (.cells #[.slice (some ⟨G, 0, none⟩) (512 * K) cap] 85)).alloc (.cells #[.int .i64 512] 3)) = w4 at *
  rw [← hT] at hT4 hB4 ⊢
  have hGz : G < w2.heap.size := by omega
  obtain ⟨M, hM⟩ : ∃ M, M = w2.heap.size := ⟨_, rfl⟩
  rw [← hM] at hs0 hs1 hz4 hGz ⊢
  have HTE := Lib.hid hT
  clear hT hG hM hb4 hb2 hsz2 hT1 hB1 hat2 hconv h1 hz1' hpad
  clear w1 w2
  gi_wp2
  refine wpIn_rangeFunc_ownF rfl (by omega) (gf := 97) (lb := #[.pointer (some ⟨M, 0, none⟩), .pointer (some ⟨M + 1, 0, none⟩)]) rfl trivial (enters_of Try.func97 (by kernel_rfl) rfl)
    (chunk_stops 8 (by omega) T M (M + 1) G cap K w4 (by omega) hcap1 hcap2 hs0 hs1 (by omega) (by omega) (by omega) (by omega)) BxC.trans (bxC_b (Nat.le_refl _)) (Below.refl _ _) (fun _ => rfl)
    (fun pre W => (((∃ v, Boxed W T 88 v ∧ W.ownsRow w4.heap.size 9 1 v pre.length (pre.map fun x : Chk K => Value.string (chunkB p x.1)) ∧ True) ∧ BAt W G p) ∧ w4.heap.size ≤ W.heap.size) ∧ Below T w W)
    (fun _ _ _ => False)
    (OwnFrom.and (OwnFrom.and (OwnFrom.and (Own.from (holdsRow_own w4.heap.size T 88 9 1 (fun pre : List (Chk K) => pre.length) (fun pre => pre.map fun x : Chk K => Value.string (chunkB p x.1)) (fun _ _ => True)) _) (Own.from (I := fun (_ : List (Chk K)) W => BAt W G p) (fun s A B row hs hg hr => fun j hj => cell_kept (hs j hj) hg hr) _)) (Own.from (I := fun (_ : List (Chk K)) W => w4.heap.size ≤ W.heap.size) (fun s A B row hs hg hr => Nat.le_trans hs hg.size) _)) (ownFrom_below (by have := HTE.out; omega) (by omega)))
    (fun _ _ _ _ _ hs _ _ => hs)
    ⟨⟨⟨⟨.slice none 0 0, hT4, World.ownsRow_nil _ _ _ _, trivial⟩, hA4⟩, Nat.le_refl _⟩, hB4⟩
    (fun x : Chk K => { tmps := #[.string s, undef, .pointer (some ⟨T, 0, none⟩), .slice (some ⟨G, 512 * x.1, none⟩) 512 512, .string s, .string { data := p.toArray }, .slice (some ⟨G, 0, none⟩) (512 * K) cap, .func (.func 97) #[] #[.pointer (some ⟨M, 0, none⟩), .pointer (some ⟨M + 1, 0, none⟩)], .slice (some ⟨G, 512 * x.1, none⟩) 512 512, undef, undef, undef, undef, undef, undef], defers := [] }) ?assign ?body ?done ?stop
  case assign =>
    intro l x W K hK
    gi_wp2
    exact hK
  case body =>
    rintro l pre ⟨x, hx⟩ W ⟨⟨⟨⟨v, hbox, hrow, _⟩, hbt⟩, hsz⟩, hB⟩ hlt
    have hcv := conv_chunk (P := Try.prog) hbt 85 9 5 Try.underlying85 Try.underlying5 Try.underlying9 x (by rw [hpl]; omega)
    have hv0 := hbox.cell
    have hne := (hbox.alloc (.cells #[.string (chunkB p x)] 9)).not_row (by decide) (hrow.alloc (.cells #[.string (chunkB p x)] 9))
    gi_wp2_with (gi_at_builtin; refine wpListIn_append_own _ rfl _ _ 88 rfl w4.heap.size 9 i0 (.string ⟨#[]⟩) 1 16 Try.underlying88 hi hz0 hz1 hz2 rfl (by decide) v pre.length _ rfl (hrow.alloc _) ⟨W.heap.size, 0, none⟩ 1 1 [.string (chunkB p x)] rfl rfl (cell_one_new _ _ _) (by simp [Value.oneCell']) (by unfold maxLen; omega) (by omega) (by simp; omega) ?_; intro v' w5 hown' hgrow _; obtain ⟨g', cap', rfl⟩ := ownsRow_succ hown'; have hb5 := (hbox.alloc _).kept hgrow hne; have hc5 := hb5.cell; have hf5 := hb5.frozen)
    obtain ⟨_, _, _, hko, _⟩ := Boxed.appended hbox (by decide) (row0 hrow) (Nat.zero_le _) (Nat.zero_le _) (row0 hown') hgrow
    have hGr : some G ≠ v.ownBlock := fun e => by have := (hrow.lt G e.symm).1; omega
    have hbt5 := ((hbt.grown (World.grownBy_alloc W (.cells #[.string (chunkB p x)] 9) none) (by simp)).grown hgrow hGr).far (p := ⟨T, 0, none⟩) (by show G ≠ T; omega) (.slice (some ⟨g', 0, none⟩) (pre.length + 1) cap')
    have hrow5 := hown'.kept (grown_put (grown_refl w5 (some T)) 0 (.slice (some ⟨g', 0, none⟩) (pre.length + 1) cap')) (.inr (hb5.not_row (by decide) hown').symm)
    have hbox5 := hb5.set (.slice (some ⟨g', 0, none⟩) (pre.length + 1) cap')
    have hsz5 : w4.heap.size ≤ (w5.setCell ⟨T, 0, none⟩ (.slice (some ⟨g', 0, none⟩) (pre.length + 1) cap')).heap.size := by
      have := hgrow.size
      simp [World.setCell] at this ⊢; omega
    have hB5 := ((hB.alloc (by omega) (.cells #[.string (chunkB p x)] 9)).grown hgrow (by simp; omega) (fun k hk => by have := (hrow.lt k hk).1; omega)).setCell (p := ⟨T, 0, none⟩) (Nat.le_refl _) (.slice (some ⟨g', 0, none⟩) (pre.length + 1) cap')
    have hbx : BxC w4.heap.size T W (w5.setCell ⟨T, 0, none⟩ (.slice (some ⟨g', 0, none⟩) (pre.length + 1) cap')) := ⟨hgrow.os, hgrow.tape, hgrow.output, by have := hgrow.size; simp [World.setCell] at this ⊢; omega, fun k hk hkt => by
      refine (Below.heap_setCell w5 ⟨T, 0, none⟩ _ k hkt).trans ?_
      rw [hgrow.block k (by simp; omega) (fun e => by have := (hrow.lt k e.symm).1; omega)]
      exact Below.heap_alloc W _ k (by omega)⟩
    refine ⟨hko, hbx, ⟨⟨⟨_, hbox5, ?_, trivial⟩, hbt5⟩, hsz5⟩, hB5⟩
    rw [List.length_append, List.map_append]
    exact hrow5
  case done =>
    rintro D ys W hD hS ⟨⟨⟨⟨v, hbox, hrow, _⟩, hbt⟩, hsz⟩, hB⟩ hK
    obtain ⟨ao, nn, cp, rfl⟩ : ∃ ao nn cp, v = .slice ao nn cp := by
      rcases hrow.2 with ⟨hv, _⟩ | ⟨g, cap, cur, hv, _⟩
      · exact ⟨_, _, _, hv⟩
      · exact ⟨_, _, _, hv⟩
    have hv0 := hbox.cell
    have hf0 := hbox.frozen
    have hl : ys.map (fun x : Chk K => Value.string (chunkB p x.1)) = (chunksL p K).flatMap sE := by
      rw [flat_sE, chunksL, ← hS, List.map_map, List.map_map]; rfl
    rw [hl] at hrow
    have hK6 := (KeepsOthers.setCell W ⟨T, 0, none⟩ (.slice ao nn cp)).same D _ hK rfl
    have hrow6 := hrow.kept (grown_put (grown_refl W (some T)) 0 (.slice ao nn cp)) (.inr (hbox.not_row (by decide) hrow).symm)
    have hrow7 := ownsRow_putObj hrow6 (.deferred none) hK6 rfl
    have hbox6 : Blk (W.setCell ⟨T, 0, none⟩ (.slice ao nn cp)) T 88 #[.slice ao nn cp] := hbox.set (.slice ao nn cp)
    have hB6 := hB.setCell (p := ⟨T, 0, none⟩) (Nat.le_refl _) (.slice ao nn cp)
    have hsl := SlV.of_own hrow7 (fun _ => rfl) (by omega)
    have HF := Lib.hid (And.intro hsl (And.intro hB6 (And.intro hbox6 hK6))); clear hsl hB6 hbox6 hK6 hrow hrow6 hrow7
    gi_wp2
    refine ⟨by simp, .inl ⟨_, _, rfl, run_takeDeferred HF.out.2.2.2, ?_⟩⟩
    refine ⟨_, results_cell_sl rfl _ _ T 88 (.slice ao nn cp) rfl (blk_ownC HF.out.2.2.1 (grownBy_putObj' _ D (.deferred none)) (fun r e => by cases e; exact ⟨_, HF.out.2.2.2, rfl⟩)) Try.underlying88, _, rfl, HF.out.1, ?_⟩
    rw [← HTE.out]
    exact HF.out.2.1.trans (belowK_b (w := w) (by have := HTE.out; omega) _ D _ _ (by have := HTE.out; have := hB4.size; omega) HF.out.2.2.2 rfl rfl)
  case stop =>
    rintro D c pre W _ _ h _
    exact h.elim
end Go.Proofs.Ytpnkgldpmalklaa
