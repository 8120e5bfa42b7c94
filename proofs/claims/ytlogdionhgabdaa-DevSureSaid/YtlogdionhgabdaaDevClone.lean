/- A device: a copy that goes its own way. -/
import Derived.Test.YtlogdionhgabdaaDevRestart
import Derived.Test.YtlogdionhgabdaaSlCloneST
set_option linter.unusedVariables false
set_option linter.unusedSimpArgs false
namespace Sw
open Go Go.RowKit
def strE (s : ByteArray) : List Value := [.string s]
theorem strE_map (l : List ByteArray) : l.flatMap strE = l.map Value.string := by
  induction l with
  | nil => rfl
  | cons a l ih => rw [List.flatMap_cons, ih]; rfl
end Sw
namespace Go.Proofs.Ytlogdionhgabdaa
open Go Go.RowKit
open Sw
/-- the worlds in which a struct lies so -/
def BoxC (be : Nat) (cs : Array Value) (W : World) : Prop := Blk W be 53 cs
/-- the copy's map of writes: those places that are no longer to come -/
structure CloW (w0 : World) (fW : Int → Option Value) (l : List (Int × ByteArray)) (left : Int → Bool) (f : Int → Option Value) (wr : World) : Prop where
  no : ∀ i, (fW i = none ∨ left i = true) → f i = none
  got : ∀ i, (∃ v, fW i = some v) → left i = false → ∃ v, f i = some v ∧ wr.ownsRow w0.heap.size 9 1 v (wetAt l i).length ((wetAt l i).map Value.string)
  apart : ∀ i j v v' g, f i = some v → f j = some v' → v.ownBlock = some g → v'.ownBlock = some g → i = j
theorem CloW.mem {w0 wr : World} {fW f : Int → Option Value} {l : List (Int × ByteArray)} {left : Int → Bool} (h : CloW w0 fW l left f wr) {i : Int} {v : Value} (hf : f i = some v) : wr.ownsRow w0.heap.size 9 1 v (wetAt l i).length ((wetAt l i).map Value.string) ∧ (∃ u, fW i = some u) ∧ left i = false := by
  have h1 : ∃ u, fW i = some u := by
    cases hw : fW i with
    | none => rw [h.no i (.inl hw)] at hf; cases hf
    | some u => exact ⟨u, rfl⟩
  have h2 : left i = false := by
    cases hl : left i with
    | true => rw [h.no i (.inr hl)] at hf; cases hf
    | false => rfl
  obtain ⟨v', hv', ho⟩ := h.got i h1 h2
  rw [hf] at hv'
  cases hv'
  exact ⟨ho, h1, h2⟩
theorem CloW.same {w0 wr w2 : World} {fW f : Int → Option Value} {l : List (Int × ByteArray)} {left : Int → Bool} (h : CloW w0 fW l left f wr) (hb : ∀ i v g, f i = some v → v.ownBlock = some g → w2.heap[g]? = wr.heap[g]?) : CloW w0 fW l left f w2 :=
  ⟨h.no, fun i h1 h2 => by
    obtain ⟨v, hv, ho⟩ := h.got i h1 h2
    exact ⟨v, hv, own_same ho (fun g hg => hb i v g hv hg)⟩, h.apart⟩
structure CloI (w : World) (be bs2 bw2 bw r : Nat) (fS fW : Int → Option Value) (d : Dv) (left : Int → Bool) (cnt : Nat) (f : Int → Option Value) (wr : World) : Prop where
  box : Blk wr be 53 #[.int .i64 d.size, .map (some bs2), .map (some bw2), .int .i64 d.limit, .int .i64 d.fuse, .bool d.off, .int .i64 d.ops]
  sure : MapI wr Try.prog 3 bs2 8192 fS
  wet : MapI wr Try.prog 3 bw2 8192 f
  run : RunsI wr Try.prog 3 bw r 8192 fW left cnt
  clo : CloW w fW d.wet left f wr
  old : Below w.heap.size w wr
  ge : w.heap.size ≤ be ∧ w.heap.size ≤ bs2 ∧ w.heap.size ≤ bw2 ∧ w.heap.size ≤ r
  ne : bs2 ≠ bw2 ∧ bw2 ≠ r ∧ bw ≠ bw2 ∧ be ≠ bw2 ∧ be ≠ r ∧ bs2 ≠ r
section
variable {w w' : World} {F : Nat → Prop} {bd bs bw be bs2 bw2 r : Nat} {fS fW f : Int → Option Value} {d : Dv}
theorem CloI.step (h0 : DevIn w F bd bs bw fS fW d) (hok : d.Ok) {left : Int → Bool} {cnt cnt' : Nat} {wr w2 w3 w4 : World} (h : CloI w be bs2 bw2 bw r fS fW d left cnt f wr) {x : Int} {v v' : Value} (hx : I64 x) (hlx : left x = true) (hfx : fW x = some v)
    (hrg : RunsI w2 Try.prog 3 bw r 8192 fW (fun j => left j && !(j == x)) cnt') (hg2 : wr.grownBy w2 (some r)) (hb3 : Below w2.heap.size w2 w3) (ho : w3.ownsRow w2.heap.size 9 1 v' (wetAt d.wet x).length ((wetAt d.wet x).map Value.string))
    (hm : MapI w4 Try.prog 3 bw2 8193 (updI f x v')) (hg4 : w3.grownBy w4 (some bw2)) : CloI w be bs2 bw2 bw r fS fW d (fun j => left j && !(j == x)) cnt' (updI f x v') w4 := by
  have hs2 := hg2.size
  have hs3 := hb3.size
  have hs4 := hg4.size
  have hsm : ∀ g, g < wr.heap.size → g ≠ r → g ≠ bw2 → w4.heap[g]? = wr.heap[g]? := fun g hg h1 h2 =>
    (hg4.block g (by omega) (fun e => h2 (by cases e; rfl))).trans ((hb3.block g (by omega)).trans (hg2.block g hg (fun e => h1 (by cases e; rfl))))
  have hrow : ∀ i u g, f i = some u → u.ownBlock = some g → g < wr.heap.size ∧ g ≠ r ∧ g ≠ bw2 := fun i u g hf hu => by
    have hm := (h.clo.mem hf).1
    obtain ⟨cur, hc⟩ := own_cells hm hu
    refine ⟨hc.lt, ?_, ?_⟩
    · rintro rfl
      obtain ⟨D, lf, ⟨es, clock, since, seen, c0, _, _, _, _, hr, _⟩, _⟩ := h.run
      unfold Blk at hc
      rw [hc] at hr
      cases hr
    · rintro rfl
      exact map_cells h.wet hc
  have hfx0 : f x = none := h.clo.no x (.inr hlx)
  have hvg : ∀ g, v'.ownBlock = some g → w2.heap.size ≤ g ∧ g < w3.heap.size := fun g hg => ho.lt g hg
  refine ⟨(hsm be h.box.lt h.ne.2.2.2.2.1 h.ne.2.2.2.1).trans h.box, h.sure.same (hsm bs2 h.sure.lt h.ne.2.2.2.2.2 h.ne.1), hm.tight Try.underlying3 (m := 8192) (fun i _ hi => ?_), ?_, ⟨fun i hi => ?_, fun i h1 h2 => ?_, fun i j u u' g hu hu' hg hg' => ?_⟩, ?_, h.ge, h.ne⟩
  · have h8 := hok.size
    have hkey : ∀ j u, fW j = some u → 0 ≤ j ∧ j < (8192 : Nat) := fun j u hj => by
      have := hok.key (h0.wetIs.mem hj).1
      omega
    unfold updI at hi
    by_cases hix : i = x
    · subst hix; exact hkey _ _ hfx
    · rw [if_neg hix] at hi
      obtain ⟨u, hu⟩ := Option.isSome_iff_exists.1 hi
      obtain ⟨_, ⟨u', hu'⟩, _⟩ := h.clo.mem hu
      exact hkey _ _ hu'
  · have hbw := hrg.owns.lt
    have hrl := hrg.lt
    refine hrg.kept (row := some bw2) ⟨hg4.os.trans hb3.os, hg4.tape.trans hb3.tape, hg4.output.trans hb3.output, by omega, fun k hk hn => (hg4.block k (by omega) hn).trans (hb3.block k hk)⟩ (fun e => h.ne.2.2.1 (by cases e; rfl)) (fun e => h.ne.2.1 (by cases e; rfl))
  · unfold updI
    by_cases hix : i = x
    · subst hix
      rcases hi with hi | hi
      · rw [hfx] at hi; cases hi
      · simp at hi
    · rw [if_neg hix]
      refine h.clo.no i (hi.imp id (fun hi => ?_))
      simp at hi
      exact hi.1
  · unfold updI
    by_cases hix : i = x
    · subst hix
      rw [if_pos rfl]
      refine ⟨v', rfl, own_same (own_wide ho (by have := h.old.size; omega)) (fun g hg => hg4.block g (hvg g hg).2 (fun e => ?_))⟩
      have h1 := (hvg g hg).1
      have h2 := h.wet.lt
      cases e
      omega
    · rw [if_neg hix]
      have hl : left i = false := by simpa [hix] using h2
      obtain ⟨u, hu, hou⟩ := h.clo.got i h1 hl
      exact ⟨u, hu, own_same hou (fun g hg => by obtain ⟨a, b, c⟩ := hrow i u g hu hg; exact hsm g a b c)⟩
  · unfold updI at hu hu'
    by_cases hix : i = x
    · by_cases hjx : j = x
      · rw [hix, hjx]
      · exfalso
        rw [if_pos hix] at hu
        rw [if_neg hjx] at hu'
        cases hu
        have := (hvg g hg).1
        have := (hrow j u' g hu' hg').1
        omega
    · rw [if_neg hix] at hu
      by_cases hjx : j = x
      · exfalso
        rw [if_pos hjx] at hu'
        cases hu'
        have := (hvg g hg').1
        have := (hrow i u g hu hg).1
        omega
      · rw [if_neg hjx] at hu'
        exact h.clo.apart i j u u' g hu hu' hg hg'
  · have hss := h.old.size
    exact ((h.old.grown hg2 hss (fun k hk => by cases hk; exact h.ge.2.2.2)).trans (hb3.mono (by omega))).grown hg4 (by omega) (fun k hk => by cases hk; exact h.ge.2.2.1)
theorem CloI.done (h0 : DevIn w F bd bs bw fS fW d) {left : Int → Bool} {cnt : Nat} {wr : World} (h : CloI w be bs2 bw2 bw r fS fW d left cnt f wr) (hok : d.Ok) (hl : ∀ i, I64 i → left i = false) :
    DevIn wr (fun i => w.heap.size ≤ i ∧ i < wr.heap.size) be bs2 bw2 fS f d := by
  have hli : ∀ i, wetAt d.wet i ≠ [] → left i = false := fun i hi => hl i (by have := hok.key hi; have := hok.size; exact I64.mk (by omega) (by omega))
  refine ⟨h.box, h.sure, h.wet, h0.sureIs, ⟨fun i hi => h.clo.no i (.inl (h0.wetIs.no i hi)), fun i hi => ?_, h.clo.apart⟩, h.ne.1, ⟨h.ge.1, h.box.lt⟩, ⟨h.ge.2.1, h.sure.lt⟩, ⟨h.ge.2.2.1, h.wet.lt⟩, fun i v g hf hv => ?_, fun i hi => hi.2⟩
  · obtain ⟨u, hu, _⟩ := h0.wetIs.got i hi
    obtain ⟨v, hv, ho⟩ := h.clo.got i ⟨u, hu⟩ (hli i hi)
    exact ⟨v, hv, own_wide ho (Nat.zero_le _)⟩
  · exact ((h.clo.mem hf).1).lt g hv
theorem mapsClone_any (f : Int → Option Value) (b : Nat) (w : World) (h : MapI w Try.prog 3 b 8192 f) :
    Calls Try.prog 31 #[.map (some b)] w fun e w' => e = .returned (.map (some w.heap.size)) ∧ MapI w' Try.prog 3 w.heap.size 8192 f ∧ Below w.heap.size w w' ∧ w'.heap.size = w.heap.size + 1 := by
  obtain ⟨D, hown, h2⟩ := h
  obtain ⟨es, clock, hb, F0, hs, hD⟩ := hown
  refine (AnyW.maps_Clone Try.cloneA b es clock w hb).mono ?_
  rintro e w' ⟨rfl, rfl⟩
  exact ⟨rfl, ⟨D, ⟨es, clock, MapKept.heap_alloc w _ |>.1, F0, hs, hD⟩, h2⟩, (Below.refl _ w).alloc (Nat.le_refl _) _, World.size_alloc _ _⟩
theorem wet_slv (h : DevIn w F bd bs bw fS fW d) {wr : World} (hb : Below w.heap.size w wr) {x : Int} {v : Value} (hf : fW x = some v) : SlV wr 1 strE v (wetAt d.wet x) := by
  have ho := (h.wetIs.mem hf).2
  rw [← strE_map] at ho
  exact (SlV.of_own ho (fun _ => rfl) (by decide)).below hb (Nat.le_refl _)
set_option maxRecDepth 100000 in
theorem devClone_any (h : DevIn w F bd bs bw fS fW d) (hok : d.Ok) (hwl : d.wet.length ≤ 1000000) :
    Calls Try.prog 24 #[.pointer (some ⟨bd, 0, none⟩)] w fun e w' => ∃ be G, e = .returned (.pointer (some ⟨be, 0, none⟩)) ∧ DevAt w' G be d ∧ (∀ i, G i → w.heap.size ≤ i) ∧ Below w.heap.size w w' := by
  have c0 := h.box.cell 0
  have c1 := h.box.cell 1
  have c2 := h.box.cell 2
  have c3 := h.box.cell 3
  have c4 := h.box.cell 4
  have c5 := h.box.cell 5
  have c6 := h.box.cell 6
  simp at c0 c1 c2 c3 c4 c5 c6
  have hmm := @run_makeMap Try.prog
  have HH := Lib.hid (And.intro h (And.intro hok hwl)); clear h hok hwl
  go_enter Try.func24, Try.ntmps24
  obtain ⟨W1, hW1⟩ : ∃ W1, w.alloc (.cells #[.int .i64 d.size, .map (some bs), .map (some bw), .int .i64 d.limit, .int .i64 d.fuse, .bool d.off, .int .i64 d.ops] 53) = W1 := ⟨_, rfl⟩
  obtain ⟨be, hbe⟩ : ∃ be, w.heap.size = be := ⟨_, rfl⟩
  have hbx : Blk W1 be 53 #[.int .i64 d.size, .map (some bs), .map (some bw), .int .i64 d.limit, .int .i64 d.fuse, .bool d.off, .int .i64 d.ops] := by rw [← hW1, ← hbe]; exact Blk.new w _ _
  have hold1 : Below w.heap.size w W1 := by rw [← hW1]; exact (Below.refl _ w).alloc (Nat.le_refl _) _
  have hsz1 : W1.heap.size = be + 1 := by rw [← hW1, ← hbe]; exact World.size_alloc _ _
  go_upto_region 4 with fail
  try rw [hW1]
  try rw [hbe]
  have HW := Lib.hid (And.intro hbe (And.intro hbx (And.intro hold1 hsz1))); clear hW1 hbe hbx hold1 hsz1 c0 c3 c4 c5 c6
  have HI1 := Lib.hid (HH.out.1.below HW.out.2.2.1)
  have b1 := HI1.out.box.cell 1
  simp at b1
  have HMC := Lib.hid (mapsClone_any fS bs W1 HI1.out.sure)
  clear c1 c2
  go_wp2_with fail
  refine HMC.out.mono ?_
  rintro e w2 ⟨rfl, hms2, hb2, hsz2⟩
  have hbx2 := HW.out.2.1.below hb2 HW.out.2.1.lt
  have e1 := hbx2.cell 1
  have f1 := hbx2.frozen 1
  simp at e1
  rw [HW.out.2.2.2] at hms2 hsz2
  rw [HW.out.2.2.2]
  have hn1 : be + 1 ≠ be := by omega
  obtain ⟨W3, hW3⟩ : ∃ W3, w2.setCell ⟨be, 1, none⟩ (.map (some (be + 1))) = W3 := ⟨_, rfl⟩
  have hbx3 : Blk W3 be 53 #[.int .i64 d.size, .map (some (be + 1)), .map (some bw), .int .i64 d.limit, .int .i64 d.fuse, .bool d.off, .int .i64 d.ops] := by
    rw [← hW3]
    simpa using hbx2.put 1 (.map (some (be + 1)))
  have hms3 : MapI W3 Try.prog 3 (be + 1) 8192 fS := hms2.same (by rw [← hW3]; exact Below.heap_setCell _ _ _ _ hn1)
  have hg3 : W1.grownBy W3 (some be) := by
    rw [← hW3]
    exact grown_put (grown_below (row := some be) hb2) 1 _
  have hsz3 : W3.heap.size = be + 1 + 1 := by rw [← hW3]; simpa [World.setCell] using hsz2
  have HI3 := Lib.hid (HI1.out.same (w' := W3) (fun i hi => hg3.block i (HI1.out.lt i hi) (fun e => by cases e; have := HH.out.1.lt _ hi; have := HW.out.1; omega)) hg3.size)
  go_upto_region 5 with fail
  try rw [hW3]
  have H3 := Lib.hid (And.intro hbx3 (And.intro hms3 (And.intro hg3 hsz3))); clear hbx3 hms3 hg3 hsz3 hW3 e1 f1 hbx2 hms2 hb2 hsz2 HMC
  have hbx4 := H3.out.1.alloc (.map #[] 0)
  have e2 := hbx4.cell 2
  have f2 := hbx4.frozen 2
  simp at e2
  have hm4 := MapI.made W3 Try.prog 3
  obtain ⟨W5, hW5⟩ : ∃ W5, (W3.alloc (.map #[] 0)).setCell ⟨be, 2, none⟩ (.map (some W3.heap.size)) = W5 := ⟨_, rfl⟩
  have hs3 := H3.out.2.2.2
  rw [hs3] at hm4 hW5
  have hn2 : be + 1 + 1 ≠ be := by omega
  have hbx5 : Blk W5 be 53 #[.int .i64 d.size, .map (some (be + 1)), .map (some (be + 1 + 1)), .int .i64 d.limit, .int .i64 d.fuse, .bool d.off, .int .i64 d.ops] := by
    rw [← hW5]
    simpa using hbx4.put 2 (.map (some (be + 1 + 1)))
  have hms5 : MapI W5 Try.prog 3 (be + 1) 8192 fS := (H3.out.2.1.alloc (.map #[] 0)).same (by rw [← hW5]; exact Below.heap_setCell _ _ _ _ (by dsimp only; omega))
  have hmw5 : MapI W5 Try.prog 3 (be + 1 + 1) 8192 (fun _ => none) := (hm4.mono (by omega)).same (by rw [← hW5]; exact Below.heap_setCell _ _ _ _ (by dsimp only; omega))
  have hg5 : W3.grownBy W5 (some be) := by
    rw [← hW5]
    exact grown_put (grown_alloc (grown_refl W3 (some be)) _) 2 _
  have hsz5 : W5.heap.size = be + 1 + 1 + 1 := by rw [← hW5]; simp [World.setCell, hs3]
  have HI5 := Lib.hid (HI3.out.same (w' := W5) (fun i hi => hg5.block i (HI3.out.lt i hi) (fun e => by cases e; have := HH.out.1.lt _ hi; have := HW.out.1; omega)) hg5.size)
  go_upto_region 6 with fail
  try rw [hW5]
  have hbw5 : Below w.heap.size w W5 := (HW.out.2.2.1.grown H3.out.2.2.1 HW.out.2.2.1.size (fun k hk => by cases hk; exact Nat.le_of_eq HW.out.1)).grown hg5 (by have := HW.out.2.2.1.size; have := H3.out.2.2.1.size; omega) (fun k hk => by cases hk; exact Nat.le_of_eq HW.out.1)
  have H5 := Lib.hid (And.intro hbx5 (And.intro hms5 (And.intro hmw5 (And.intro hbw5 hsz5)))); clear hbx5 hms5 hmw5 hg5 hsz5 hW5 e2 f2 hbx4 hm4 H3 HI3 hs3 hbw5
  have b2 := HI5.out.box.cell 2
  simp at b2
  clear b1
  go_wp2_with (at_range; refine wpList_rangeI rfl _ 51 rfl 3 40 Try.underlying3 Try.underlying51 bw 8192 fW rfl HI5.out.wet ?_; intro w6 cnt0 hrg0 hg0 hs0)
  go_frame
  have hwlt := HH.out.1.wet.lt
  have hwb := HW.out.1
  have h5s := H5.out.2.2.2.2
  rw [h5s] at hrg0 hs0
  have HR := Lib.hid (show CloI w be (be + 1) (be + 1 + 1) bw (be + 1 + 1 + 1) fS fW d (fun i => (fW i).isSome) cnt0 (fun _ => none) w6 from ⟨H5.out.1.grown hg0 (by simp), H5.out.2.1.kept hg0 (by simp), H5.out.2.2.1.kept hg0 (by simp), hrg0, ⟨fun _ _ => rfl, fun i h1 h2 => (by obtain ⟨u, hu⟩ := h1; rw [hu] at h2; cases h2), fun i j v v' g hf => (by cases hf)⟩, H5.out.2.2.2.1.grown hg0 H5.out.2.2.2.1.size (fun k hk => by cases hk), by omega, by omega⟩)
  clear hrg0 hg0 hs0
  rw [h5s]
  go_loopw [4] (fun _ wr => ∃ left cnt f, CloI w be (be + 1) (be + 1 + 1) bw (be + 1 + 1 + 1) fS fW d left cnt f wr) (fun _ wr => wr.rangeLeft bw (be + 1 + 1 + 1))
  case atStart => exact ⟨_, _, _, HR.out⟩
  case round =>
    obtain ⟨left, cnt, f, hci⟩ := hrel
    have HG := Lib.hid hci; clear hci HR
    go_wp2_with (at_next; refine wpList_nextI rfl _ rfl 3 Try.underlying3 bw (be + 1 + 1 + 1) 8192 fW left cnt rfl HG.out.run ?_ ?_)
    · intro hl
      have HF := Lib.hid (CloI.done HH.out.1 HG.out HH.out.2.1 hl); clear hl
      go_wp2_with fail
      go_ret
      exact ⟨be, _, rfl, ⟨_, _, _, _, HF.out⟩, fun i hi => hi.1, HG.out.old⟩
    · intro x v w7 cnt1 hx hlx hfx hrg1 hlt hg1 hs1 hen
      have hb7 := HG.out.old.grown hg1 HG.out.old.size (fun k hk => by cases hk; exact HG.out.ge.2.2.2)
      have hsv := wet_slv HH.out.1 hb7.drew hfx
      obtain ⟨A, c, hv, _⟩ := id hsv
      subst hv
      have hlw := wetAt_len d.wet x
      have HCL := Lib.hid (slCloneST_any strE (fun _ => rfl) (fun y u hu => by simp only [strE, List.mem_singleton] at hu; rw [hu]; rfl) w7.drew _ _ hsv (by have := HH.out.2.2; omega))
      have hbx7 := HG.out.box.grown hg1 (fun e => HG.out.ne.2.2.2.2.1 (Option.some.inj e))
      have hwt7 := HG.out.wet.kept hg1 (fun e => HG.out.ne.2.1 (Option.some.inj e))
      have hmeas : w7.rangeLeft bw (be + 1 + 1 + 1) < wr.rangeLeft bw (be + 1 + 1 + 1) := by rw [hrg1.left_eq, HG.out.run.left_eq]; exact hlt
      have H7 := Lib.hid (And.intro hlx (And.intro hfx (And.intro hrg1 (And.intro hg1 (And.intro hmeas (And.intro hbx7 hwt7)))))); clear hlx hfx hrg1 hg1 hlt hmeas hbx7 hwt7 hsv hb7
      have j2 : ∀ m : Held (BoxC be #[.int .i64 d.size, .map (some (be + 1)), .map (some (be + 1 + 1)), .int .i64 d.limit, .int .i64 d.fuse, .bool d.off, .int .i64 d.ops]), (HeldW m).cell? ⟨be, 2, none⟩ = some (.map (some (be + 1 + 1))) := fun m => Blk.cell (HeldW_spec m) 2
      have HC := Lib.hid (show BoxC be #[.int .i64 d.size, .map (some (be + 1)), .map (some (be + 1 + 1)), .int .i64 d.limit, .int .i64 d.fuse, .bool d.off, .int .i64 d.ops] w7.drew from H7.out.2.2.2.2.2.1.drew)
      go_wp2_with fail
      refine wp_region_mixD (BoxC be #[.int .i64 d.size, .map (some (be + 1)), .map (some (be + 1 + 1)), .int .i64 d.limit, .int .i64 d.fuse, .bool d.off, .int .i64 d.ops]) [(0, true), (1, true), (2, true), (3, true), (4, false), (5, false)] (by kernel_rfl) (by kernel_rfl) ?_
      simp only [pickP, List.filterMap_cons, List.filterMap_nil, List.getElem?_toArray, List.getElem?_cons_succ, List.getElem?_cons_zero, Option.map_some]
      repeat (apply mixD_first; apply Exists.intro; refine ⟨fun m => ?_, HC.out, ?_⟩; · (go_big_quiet_step (fail); exact wpQuiet_nil rfl))
      refine mixD_forced HC.out ?_
      go_wp2_with fail
      refine HCL.out.mono ?_
      rintro e w8 ⟨v', rfl, hov, hb8⟩
      rw [strE_map] at hov
      have H8 := Lib.hid (And.intro hov hb8); clear hov hb8 HCL
      have HC8 := Lib.hid (show BoxC be #[.int .i64 d.size, .map (some (be + 1)), .map (some (be + 1 + 1)), .int .i64 d.limit, .int .i64 d.fuse, .bool d.off, .int .i64 d.ops] w8 from Blk.below HC.out H8.out.2 H7.out.2.2.2.2.2.1.lt)
      have HM8 := Lib.hid (H7.out.2.2.2.2.2.2.drew.below H8.out.2 H7.out.2.2.2.2.2.2.lt)
      go_wp2_with fail
      show mixD _ _ _ _ _ _ _
      refine mixD_forced HC8.out ?_
      go_wp2_with (at_mapUpdate; refine wpList_storeI rfl _ _ _ 51 rfl 3 40 Try.underlying3 Try.underlying51 (be + 1 + 1) 8192 f rfl HM8.out (by unfold maxLen; omega) x rfl hx _ rfl ?_; intro w9 hm9 hg9)
      have HF := Lib.hid (CloI.step HH.out.1 HH.out.2.1 HG.out hx H7.out.1 H7.out.2.1 H7.out.2.2.1 H7.out.2.2.2.1 (below_of_drew H8.out.2) H8.out.1 hm9 hg9)
      have hlr : w9.rangeLeft bw (be + 1 + 1 + 1) = w7.rangeLeft bw (be + 1 + 1 + 1) := by rw [HF.out.run.left_eq, H7.out.2.2.1.left_eq]
      have HL := Lib.hid hlr; clear hlr hm9 hg9 j2
      show mixD _ _ _ _ _ _ _
      refine mixD_nil ?_
      go_wp2_with fail
      go_roundw
      case rel => exact ⟨_, _, _, HF.out⟩
      case measure => rw [HL.out]; exact H7.out.2.2.2.2.1
end
end Go.Proofs.Ytlogdionhgabdaa
