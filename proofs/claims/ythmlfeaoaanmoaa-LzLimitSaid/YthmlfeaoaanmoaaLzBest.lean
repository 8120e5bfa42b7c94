/- lz's best, in general. -/
import Derived.Test.YthmlfeaoaanmoaaLzPlaces
import Derived.Test.YthmlfeaoaanmoaaHeldIn
import Derived.Test.YthmlfeaoaanmoaaLzLong
set_option linter.unusedVariables false
set_option linter.unusedSimpArgs false
namespace Go.Proofs.Ythmlfeaoaanmoaa
open Go Go.RowKit Go.Shelf Go.Maps
open Sw
attribute [local go_sem] Oper.semAt_some
/-- a copy that may be told, or none -/
def CpOk (s : ByteArray) (a L B : Nat) : Prop := (L = 0 ∧ B = 0) ∨ (1 ≤ B ∧ B ≤ a ∧ B ≤ 32768 ∧ L ≤ lg s B a 258)
set_option maxRecDepth 100000 in
set_option maxHeartbeats 4000000 in
theorem best_any (base g b : Nat) (s : ByteArray) (dv : Int) (m a : Nat) (av : Value) (D : DataW Unit) (ah : List Int) (w : World) (h : Fd w base g b s (.int .i64 dv) m av D ah) (hs : s.size ≤ 1000000) (h0 : a < s.size) (h1 : a + 1 < s.size) (h2 : a + 2 < s.size) (hma : m ≤ a) (hd1 : 1 ≤ dv) (hd2 : dv ≤ 1024) (c : Int) (hc : D.atKey (keyL s[a] s[a + 1] s[a + 2]) (.lit (.int .i64 0)) = .lit (.int .i64 c)) :
    Calls Try.prog 62 #[.pointer (some ⟨g, 0, none⟩), .int .i64 a] w fun e w' => (∃ L B : Nat, e = .returned (.agg #[.int .u8 0, .int .i64 L, .int .i64 B]) ∧ CpOk s a L B ∧ (L = 0 ∨ 3 ≤ L) ∧ (Maps.has D (keyL s[a] s[a + 1] s[a + 2]) = true → (a : Int) - c ≤ 32768 → lg s ((a : Int) - c).toNat a 258 ≤ L ∨ lg s ((a : Int) - c).toNat a 258 < 3)) ∧ Below w.heap.size w w' := by
  refine callsIn_wide.1 (?_ : CallsIn Fence.wide 9 _ _ _ _ _)
  refine callsIn_of_wp_marks Try.func62 rfl trivial ?_ rfl
  simp only [Try.ntmps62, List.size_toArray, List.length_cons, List.length_nil, Nat.reduceAdd, Nat.reduceSub, Array.replicate_succ, Array.replicate_zero, List.push_toArray, List.append_toArray, List.nil_append, List.cons_append]
  gi_wp2
  refine ⟨trivial, ?_⟩
  refine (callsIn_wide.2 (places_any _ _ _ rfl)).mono ?_
  rintro e w' ⟨rfl, rfl⟩
  have hBT := blk_trd w (.cells #[.pointer (some ⟨g, 0, none⟩)] 102) (.cells #[.int .i64 (a : Int)] 3) #[.int .u8 0, .int .i64 0, .int .i64 0] 80
  have hBF := (blk_fst w #[.pointer (some ⟨g, 0, none⟩)] 102 (.cells #[.int .i64 (a : Int)] 3)).alloc (.cells #[.int .u8 0, .int .i64 0, .int .i64 0] 80)
  have hBA := (blk_snd w (.cells #[.pointer (some ⟨g, 0, none⟩)] 102) #[.int .i64 (a : Int)] 3).alloc (.cells #[.int .u8 0, .int .i64 0, .int .i64 0] 80)
  have hB3 : Below w.heap.size w (((w.alloc (.cells #[.pointer (some ⟨g, 0, none⟩)] 102)).alloc (.cells #[.int .i64 (a : Int)] 3)).alloc (.cells #[.int .u8 0, .int .i64 0, .int .i64 0] 80)) := (((Below.refl _ _).alloc (Nat.le_refl _) _).alloc (by simp) _).alloc (by simp; omega) _
  obtain ⟨w3, hw3⟩ : ∃ w3, w3 = ((w.alloc (.cells #[.pointer (some ⟨g, 0, none⟩)] 102)).alloc (.cells #[.int .i64 (a : Int)] 3)).alloc (.cells #[.int .u8 0, .int .i64 0, .int .i64 0] 80) := ⟨_, rfl⟩
  have hs3 : w3.heap.size = w.heap.size + 1 + 1 + 1 := by rw [hw3]; simp
  rw [← hw3] at hBT hBF hBA hB3 ⊢
  clear hw3
  have hglt : g < w.heap.size := h.blk.lt
  have hg : w.cell? ⟨g, 0, none⟩ = some (.string s) := by have := h.blk.cell 0; simpa using this
  have hg3 := (hB3.cell (p := ⟨g, 0, none⟩) hglt).trans hg
  have hB5 : Below w.heap.size w ((w3.alloc (.cells #[.pointer (some ⟨g, 0, none⟩)] 102)).alloc (.cells #[.int .i64 (a : Int)] 3)) := (hB3.alloc hB3.size _).alloc (by simp; omega) _
  have hBT5 : Blk ((w3.alloc (.cells #[.pointer (some ⟨g, 0, none⟩)] 102)).alloc (.cells #[.int .i64 (a : Int)] 3)) (w.heap.size + 1 + 1) 80 #[.int .u8 0, .int .i64 0, .int .i64 0] := (hBT.alloc _).alloc _
  have hBF5 := (hBF.alloc (.cells #[.pointer (some ⟨g, 0, none⟩)] 102)).alloc (.cells #[.int .i64 (a : Int)] 3)
  have hBA5 := (hBA.alloc (.cells #[.pointer (some ⟨g, 0, none⟩)] 102)).alloc (.cells #[.int .i64 (a : Int)] 3)
  have hca : ((w3.alloc (.cells #[.pointer (some ⟨g, 0, none⟩)] 102)).alloc (.cells #[.int .i64 (a : Int)] 3)).cell? ⟨w3.heap.size + 1, 0, none⟩ = some (.int .i64 (a : Int)) := (blk_snd w3 (.cells #[.pointer (some ⟨g, 0, none⟩)] 102) #[.int .i64 (a : Int)] 3).cell 0
  have hcf : ((w3.alloc (.cells #[.pointer (some ⟨g, 0, none⟩)] 102)).alloc (.cells #[.int .i64 (a : Int)] 3)).cell? ⟨w3.heap.size, 0, none⟩ = some (.pointer (some ⟨g, 0, none⟩)) := (blk_fst w3 #[.pointer (some ⟨g, 0, none⟩)] 102 (.cells #[.int .i64 (a : Int)] 3)).cell 0
  have hcg : ((w3.alloc (.cells #[.pointer (some ⟨g, 0, none⟩)] 102)).alloc (.cells #[.int .i64 (a : Int)] 3)).cell? ⟨g, 0, none⟩ = some (.string s) := (hB5.cell (p := ⟨g, 0, none⟩) hglt).trans hg
  have hs5 : ((w3.alloc (.cells #[.pointer (some ⟨g, 0, none⟩)] 102)).alloc (.cells #[.int .i64 (a : Int)] 3)).heap.size = w3.heap.size + 1 + 1 := by simp
  generalize (w3.alloc (.cells #[.pointer (some ⟨g, 0, none⟩)] 102)).alloc (.cells #[.int .i64 (a : Int)] 3) = w5 at *
  rw [hs3] at hca hcf
  have hz5 : w.heap.size + 1 + 1 + 1 + 1 < w5.heap.size := by omega
  rw [hs3]
  clear hs3 hs5
  have h5 : Fd w5 base g b s (.int .i64 dv) m av D ah := ⟨h.blk.below hB5 hglt, h.own.kept (grown_below (row := none) hB5) (by simp), h.row.kept (grown_below (row := none) hB5) (by rcases av.ownBlock with _ | q <;> simp), h.ok, h.low, h.gb, h.bb⟩
  have hav5 : ∀ q, av.ownBlock = some q → q ≠ w.heap.size + 1 + 1 := fun q hq => by have := (h.row.lt q hq).2; omega
  gi_wp2
  refine wpIn_rangeFunc_ownF rfl (by omega) (gf := 89) (lb := #[.pointer (some ⟨w.heap.size + 1 + 1 + 1 + 1, 0, none⟩), .pointer (some ⟨w.heap.size + 1 + 1 + 1, 0, none⟩)]) rfl trivial (enters_of Try.func89 (by kernel_rfl) rfl)
    (places_stops 8 (by omega) (w.heap.size + 1 + 1) (w.heap.size + 1 + 1 + 1 + 1) (w.heap.size + 1 + 1 + 1) base g b s dv m a av D ah w5 h5 hs h0 h1 h2 hma hd1 hd2 hca hcf (by omega) (by omega) (by omega) (by omega) (by omega) hav5 c hc) Bx.trans (bxK_b (Nat.le_refl _)) (Below.refl _ _) (fun _ => rfl)
    (fun pre W => (∃ L B : Nat, CpOk s a L B ∧ (∀ x : Plc m a, pre.head? = some x → lg s ((a : Int) - x.1).toNat a 258 ≤ L) ∧ Blk W (w.heap.size + 1 + 1) 80 #[.int .u8 0, .int .i64 L, .int .i64 B] ∧ Blk W w.heap.size 102 #[.pointer (some ⟨g, 0, none⟩)] ∧ Blk W (w.heap.size + 1) 3 #[.int .i64 (a : Int)]) ∧ Below w.heap.size w W ∧ w5.heap.size ≤ W.heap.size)
    (fun _ _ _ => False)
    (OwnFrom.and (Own.from (I := fun (pre : List (Plc m a)) W => ∃ L B : Nat, CpOk s a L B ∧ (∀ x : Plc m a, pre.head? = some x → lg s ((a : Int) - x.1).toNat a 258 ≤ L) ∧ Blk W (w.heap.size + 1 + 1) 80 #[.int .u8 0, .int .i64 L, .int .i64 B] ∧ Blk W w.heap.size 102 #[.pointer (some ⟨g, 0, none⟩)] ∧ Blk W (w.heap.size + 1) 3 #[.int .i64 (a : Int)]) (fun _ A B row hs hg hr => by obtain ⟨L, B', p1, p2, p3, p4, p5⟩ := hs; exact ⟨L, B', p1, p2, blk_own p3 hg hr, blk_own p4 hg hr, blk_own p5 hg hr⟩) _) (OwnFrom.and (ownFrom_below (Nat.le_refl _) (by omega)) (Own.from (I := fun (_ : List (Plc m a)) W => w5.heap.size ≤ W.heap.size) (fun _ A B row hs hg hr => Nat.le_trans hs hg.size) _)))
    (fun _ _ _ _ _ hs _ _ => hs)
    ⟨⟨0, 0, .inl ⟨rfl, rfl⟩, (fun x hx => by cases hx), hBT5, hBF5, hBA5⟩, hB5, Nat.le_refl _⟩
    (fun x : Plc m a => { tmps := #[.pointer (some ⟨g, 0, none⟩), .int .i64 (a : Int), .pointer (some ⟨w.heap.size, 0, none⟩), .pointer (some ⟨w.heap.size + 1, 0, none⟩), .pointer (some ⟨w.heap.size + 1 + 1, 0, none⟩), .int .i64 x.1, undef, .pointer (some ⟨g, 0, none⟩), .int .i64 (a : Int), .func (.func 89) #[] #[.pointer (some ⟨w.heap.size + 1 + 1 + 1 + 1, 0, none⟩), .pointer (some ⟨w.heap.size + 1 + 1 + 1, 0, none⟩)], .int .i64 x.1, undef, undef, undef, undef, undef, undef, undef, undef, undef, undef, undef, undef, undef, undef, undef, undef, undef, undef, undef, undef, undef, undef, undef], defers := [] }) ?assign ?body ?done ?stop
  case assign =>
    intro l x W K hK
    gi_wp2
    exact hK
  case body =>
    rintro l pre ⟨x, hx0, hx1, hx2⟩ W ⟨⟨L, B, hok, hhd, hT, hF, hA⟩, hB, hzz⟩ hlt
    have g0 := (hB.cell (p := ⟨g, 0, none⟩) hglt).trans hg
    have t1 := hT.cell 1
    have f0 := hF.cell 0
    have a0 := hA.cell 0
    simp at t1 f0 a0
    obtain ⟨kx, rfl⟩ := Int.eq_ofNat_of_zero_le hx0
    have HT := Lib.hid (And.intro hT (And.intro hF (And.intro hA hB)))
    have hlong := fun (n : Nat) W => (callsIn_wide (n := n).2 (long_in W s a (a - kx) hs (by omega) (by omega) (by omega))).inRound l
    have hsub : (a : Int) - kx = ((a - kx : Nat) : Int) := by omega
    have HL := Lib.hid hlong; clear hlong
    have HS := Lib.hid hsub; clear hsub
    have HH := Lib.hid (And.intro hhd hok); clear hhd hok
    clear hT hF hA hB hav5 h5 hBT5 hBF5 hBA5 h hca hcf hcg
    simp only [Int.ofNat_eq_natCast] at *
    gi_wp2
    have k0 : ∀ n : Held (Aft W), (HeldW n).cell? ⟨g, 0, none⟩ = some (.string s) := fun n => (Aft.cell n (by have := HT.out.2.1.lt; show g < _; omega)).trans g0
    have k1 : ∀ n : Held (Aft W), (HeldW n).cell? ⟨w.heap.size, 0, none⟩ = some (.pointer (some ⟨g, 0, none⟩)) := fun n => (Aft.cell n HT.out.2.1.lt).trans f0
    have k2 : ∀ n : Held (Aft W), (HeldW n).cell? ⟨w.heap.size + 1, 0, none⟩ = some (.int .i64 (a : Int)) := fun n => (Aft.cell n HT.out.2.2.1.lt).trans a0
    haveI := Aft.some W
    refine wp_region_classIn (Aft W) (by kernel_rfl) (by kernel_rfl) (by kernel_rfl) (Aft.start W) ?_
    have hwr : IntKind.i64.wrap ((a : Int) - kx) = ((a - kx : Nat) : Int) := by rw [HS.out]; exact IntWalk.i64_in _ ⟨by omega, by omega⟩
    have hL : ∀ n : Held (Aft W), Calls Try.prog 37 #[.string s, .int .i64 a, .int .i64 ((a - kx : Nat) : Int)] (HeldW n) fun e w' => e = .returned (.int .i64 (lg s (a - kx) a 258 : Nat)) ∧ ∃ m, w' = (HeldW n).drewN m := fun n => long_in (HeldW n) s a (a - kx) hs (by omega) (by omega) (by omega)
    have HLL := Lib.hid hL; clear hL
    repeat (gi_big_quiet_step (with_reducible exact heldIn_of (held_drew Aft.drews (HLL.out _))))
    refine wpQuietIn_nil ?_
    rintro _ ⟨nn, rfl⟩
    have HW : Hid (Below W.heap.size W (HeldW nn)) := Lib.hid (HeldW_spec nn)
    generalize HeldW nn = W1 at *
    clear k0 k1 k2 nn
    have hT1 := HT.out.1.below HW.out HT.out.1.lt
    have hF1 := HT.out.2.1.below HW.out HT.out.2.1.lt
    have hA1 := HT.out.2.2.1.below HW.out HT.out.2.2.1.lt
    have hB1 := HT.out.2.2.2.trans (HW.out.mono HT.out.2.2.2.size)
    have hko1 : KeepsOthers W W1 := ⟨HW.out.size, fun k o hk _ => by rw [HW.out.block k (Array.getElem?_eq_some_iff.1 hk).1]; exact hk⟩
    have hbx1 : Bx w5.heap.size (w.heap.size + 1 + 1) W W1 := Bx.of _ (HW.out.mono hzz)
    have hLn : 0 ≤ (lg s (a - kx) a 258 : Int) := Int.natCast_nonneg _
    have hcp : CpOk s a (lg s (a - kx) a 258) (a - kx) := .inr ⟨by omega, by omega, by omega, Nat.le_refl _⟩
    have hnew : ∀ y : Plc m a, (pre ++ [(⟨(kx : Int), hx0, hx1, hx2⟩ : Plc m a)]).head? = some y → ∀ M, L ≤ M → lg s (a - kx) a 258 ≤ M → lg s ((a : Int) - y.1).toNat a 258 ≤ M := by
      intro y hy M h1 h2
      cases pre with
      | nil =>
        simp at hy
        subst hy
        rw [show ((a : Int) - (kx : Int)).toNat = a - kx by omega]; exact h2
      | cons p r => exact Nat.le_trans (HH.out.1 y (by simpa using hy)) h1
    have t1' := hT1.cell 1
    have t0' := hT1.cell 0
    have t2' := hT1.cell 2
    have tf0 := hT1.frozen 0
    have tf1 := hT1.frozen 1
    have tf2 := hT1.frozen 2
    have a0' := hA1.cell 0
    simp at t1' t0' t2' a0'
    have HCP := Lib.hid (And.intro hcp hnew); clear hcp hnew
    have HQ := Lib.hid (And.intro hT1 (And.intro hF1 (And.intro hA1 (And.intro hB1 (And.intro hko1 hbx1))))); clear hT1 hF1 hA1 hB1 hko1 hbx1
    generalize lg s (a - kx) a 258 = N at *
    by_cases hgt : (L : Int) < N
    · gi_wp2
      refine ⟨((HQ.out.2.2.2.2.1.trans (KeepsOthers.setCell _ _ _)).trans (KeepsOthers.setCell _ _ _)).trans (KeepsOthers.setCell _ _ _), ?_, ⟨⟨N, a - kx, HCP.out.1, fun y hy => HCP.out.2 y hy N (by omega) (Nat.le_refl _), ?_, ?_, ?_⟩, ?_, ?_⟩⟩
      · have hb := HQ.out.2.2.2.2.2
        refine ⟨hb.os, hb.tape, hb.output, by have := hb.size; simpa [World.setCell] using this, fun k hk hkt => ?_⟩
        refine (Below.heap_setCell _ ⟨w.heap.size + 1 + 1, 2, none⟩ _ k hkt).trans ?_
        refine (Below.heap_setCell _ ⟨w.heap.size + 1 + 1, 1, none⟩ _ k hkt).trans ?_
        exact (Below.heap_setCell _ ⟨w.heap.size + 1 + 1, 0, none⟩ _ k hkt).trans (hb.block k hk hkt)
      · exact ((HQ.out.1.put 0 (.int .u8 0)).put 1 (.int .i64 (N : Int))).put 2 (.int .i64 ((a - kx : Nat) : Int))
      · exact ((HQ.out.2.1.far (p := ⟨w.heap.size + 1 + 1, 0, none⟩) (by dsimp only; omega) _).far (p := ⟨w.heap.size + 1 + 1, 1, none⟩) (by dsimp only; omega) _).far (p := ⟨w.heap.size + 1 + 1, 2, none⟩) (by dsimp only; omega) _
      · exact ((HQ.out.2.2.1.far (p := ⟨w.heap.size + 1 + 1, 0, none⟩) (by dsimp only; omega) _).far (p := ⟨w.heap.size + 1 + 1, 1, none⟩) (by dsimp only; omega) _).far (p := ⟨w.heap.size + 1 + 1, 2, none⟩) (by dsimp only; omega) _
      · exact ((HQ.out.2.2.2.1.setCell (p := ⟨w.heap.size + 1 + 1, 0, none⟩) (by dsimp only; omega) _).setCell (p := ⟨w.heap.size + 1 + 1, 1, none⟩) (by dsimp only; omega) _).setCell (p := ⟨w.heap.size + 1 + 1, 2, none⟩) (by dsimp only; omega) _
      · have := HW.out.size
        simp [World.setCell]; omega
    · have hLN : N ≤ L := by omega
      gi_wp2
      refine ⟨HQ.out.2.2.2.2.1, HQ.out.2.2.2.2.2, ⟨⟨L, B, HH.out.2, (fun y hp hy => HCP.out.2 ⟨y, hp⟩ hy L (Nat.le_refl _) hLN), HQ.out.1, HQ.out.2.1, HQ.out.2.2.1⟩, HQ.out.2.2.2.1, Nat.le_trans hzz HW.out.size⟩⟩
  case done =>
    rintro D2 ys W hD hS ⟨⟨L, B, hok, hhd, hT, hF, hA⟩, hB, hzz⟩ hK
    have hlast : has D (keyL s[a] s[a + 1] s[a + 2]) = true → (a : Int) - c ≤ 32768 → lg s ((a : Int) - c).toNat a 258 ≤ L := by
      intro h1 h2
      have h3 := hS h1 h2
      cases ys with
      | nil => simp at h3
      | cons y r =>
        have h4 := hhd y rfl
        have h5 : y.1 = c := by simpa using h3
        rw [h5] at h4
        exact h4
    have HX := Lib.hid (And.intro hok hlast); clear hok hlast hhd hS
    have t0 := hT.cell 0
    have t1 := hT.cell 1
    have t2 := hT.cell 2
    have f0 := hT.frozen 0
    have f1 := hT.frozen 1
    have f2 := hT.frozen 2
    simp at t0 t1 t2
    have HT := Lib.hid hT; clear hT hF hA
    by_cases hl3 : (L : Int) < 3
    · have hL3 : L < 3 := by omega
      obtain ⟨W6, hW6⟩ : ∃ W6, W6 = ((W.setCell ⟨w.heap.size + 1 + 1, 0, none⟩ (.int .u8 0)).setCell ⟨w.heap.size + 1 + 1, 1, none⟩ (.int .i64 0)).setCell ⟨w.heap.size + 1 + 1, 2, none⟩ (.int .i64 0) := ⟨_, rfl⟩
      have hT6 : Blk W6 (w.heap.size + 1 + 1) 80 #[.int .u8 0, .int .i64 0, .int .i64 0] := by
        rw [hW6]; exact ((HT.out.put 0 (.int .u8 0)).put 1 (.int .i64 0)).put 2 (.int .i64 0)
      have hK6 : W6.heap[D2]? = some (Obj.deferred (some [])) := by
        rw [hW6]; exact (KeepsOthers.setCell _ ⟨w.heap.size + 1 + 1, 2, none⟩ (.int .i64 0)).same D2 _ ((KeepsOthers.setCell _ ⟨w.heap.size + 1 + 1, 1, none⟩ (.int .i64 0)).same D2 _ ((KeepsOthers.setCell W ⟨w.heap.size + 1 + 1, 0, none⟩ (.int .u8 0)).same D2 _ hK rfl) rfl) rfl
      have hB6 : Below w.heap.size w W6 := by
        rw [hW6]; exact ((hB.setCell (p := ⟨w.heap.size + 1 + 1, 0, none⟩) (by dsimp only; omega) (.int .u8 0)).setCell (p := ⟨w.heap.size + 1 + 1, 1, none⟩) (by dsimp only; omega) (.int .i64 0)).setCell (p := ⟨w.heap.size + 1 + 1, 2, none⟩) (by dsimp only; omega) (.int .i64 0)
      have HW6 := Lib.hid hW6; clear hW6
      have HF := Lib.hid (And.intro hT6 (And.intro hK6 hB6)); clear hT6 hK6 hB6
      gi_wp2
      rw [← HW6.out]
      refine ⟨by simp, .inl ⟨_, _, rfl, run_takeDeferred HF.out.2.1, ?_⟩⟩
      refine ⟨_, results_cell_row rfl _ _ (w.heap.size + 1 + 1) 80 #[.int .u8 0, .int .i64 0, .int .i64 0] (0, 0) _ rfl (blk_own HF.out.1 (grownBy_putObj' _ D2 (.deferred none)) (fun r e => by cases e; exact ⟨_, HF.out.2.1, rfl⟩)) Try.underlying80 rfl (by kernel_rfl), ⟨0, 0, rfl, .inl ⟨rfl, rfl⟩, .inl rfl, fun h1 h2 => .inr (Nat.lt_of_le_of_lt (HX.out.2 h1 h2) hL3)⟩, ?_⟩
      exact HF.out.2.2.trans (belowK_b (w := w) (Nat.le_refl _) _ D2 _ _ (by omega) HF.out.2.1 rfl rfl)
    · have hL3 : 3 ≤ L := by omega
      obtain ⟨W6, hW6⟩ : ∃ W6, W6 = ((W.setCell ⟨w.heap.size + 1 + 1, 0, none⟩ (.int .u8 0)).setCell ⟨w.heap.size + 1 + 1, 1, none⟩ (.int .i64 (L : Int))).setCell ⟨w.heap.size + 1 + 1, 2, none⟩ (.int .i64 (B : Int)) := ⟨_, rfl⟩
      have hT6 : Blk W6 (w.heap.size + 1 + 1) 80 #[.int .u8 0, .int .i64 (L : Int), .int .i64 (B : Int)] := by
        rw [hW6]; exact ((HT.out.put 0 (.int .u8 0)).put 1 (.int .i64 (L : Int))).put 2 (.int .i64 (B : Int))
      have hK6 : W6.heap[D2]? = some (Obj.deferred (some [])) := by
        rw [hW6]; exact (KeepsOthers.setCell _ ⟨w.heap.size + 1 + 1, 2, none⟩ (.int .i64 (B : Int))).same D2 _ ((KeepsOthers.setCell _ ⟨w.heap.size + 1 + 1, 1, none⟩ (.int .i64 (L : Int))).same D2 _ ((KeepsOthers.setCell W ⟨w.heap.size + 1 + 1, 0, none⟩ (.int .u8 0)).same D2 _ hK rfl) rfl) rfl
      have hB6 : Below w.heap.size w W6 := by
        rw [hW6]; exact ((hB.setCell (p := ⟨w.heap.size + 1 + 1, 0, none⟩) (by dsimp only; omega) (.int .u8 0)).setCell (p := ⟨w.heap.size + 1 + 1, 1, none⟩) (by dsimp only; omega) (.int .i64 (L : Int))).setCell (p := ⟨w.heap.size + 1 + 1, 2, none⟩) (by dsimp only; omega) (.int .i64 (B : Int))
      have HW6 := Lib.hid hW6; clear hW6
      have HF := Lib.hid (And.intro hT6 (And.intro hK6 hB6)); clear hT6 hK6 hB6
      gi_wp2
      rw [← HW6.out]
      refine ⟨by simp, .inl ⟨_, _, rfl, run_takeDeferred HF.out.2.1, ?_⟩⟩
      refine ⟨_, results_cell_row rfl _ _ (w.heap.size + 1 + 1) 80 #[.int .u8 0, .int .i64 (L : Int), .int .i64 (B : Int)] (0, 0) _ rfl (blk_own HF.out.1 (grownBy_putObj' _ D2 (.deferred none)) (fun r e => by cases e; exact ⟨_, HF.out.2.1, rfl⟩)) Try.underlying80 rfl (by kernel_rfl), ⟨L, B, rfl, HX.out.1, .inr hL3, fun h1 h2 => .inl (HX.out.2 h1 h2)⟩, ?_⟩
      exact HF.out.2.2.trans (belowK_b (w := w) (Nat.le_refl _) _ D2 _ _ (by omega) HF.out.2.1 rfl rfl)
  case stop =>
    rintro D c pre W _ _ h _
    exact h.elim
end Go.Proofs.Ythmlfeaoaanmoaa
