/- The reference's device: a sector is written. -/
import Derived.Test.YtlogdionhgabdaaDevRefB
set_option linter.unusedVariables false
set_option linter.unusedSimpArgs false
namespace Go.Proofs.Ytlogdionhgabdaa
open Go Go.RowKit
open Sw
theorem infoW : (Try.prog.info? 59).map (fun i => (i.zero, i.size, i.bytes)) = some (some (.agg #[.int .i64 0, .string ⟨#[]⟩]), 2, 24) := by kernel_rfl
section
variable {w w' : World} {F G : Nat → Prop} {br : Nat} {vS vW : Value} {d : Dv}
theorem RefIn.wrote (h : RefIn w G br vS vW d) {e : Int × ByteArray} {w2 w3 : World} {g cap : Nat} (h1 : w.grownBy w2 none) (h2 : w2.grownBy w3 vW.ownBlock)
    (ho : w3.ownsRow 0 59 2 (.slice (some ⟨g, 0, none⟩) (d.wet.length + 1) cap) (d.wet.length + 1) (d.wet.flatMap wE ++ wE e)) (hat : vW.ownBlock = some g ∨ g = w2.heap.size) (hg : g < w3.heap.size) :
    RefIn (w3.setCell ⟨br, 1, none⟩ (.slice (some ⟨g, 0, none⟩) (d.wet.length + 1) cap)) (fun j => G j ∨ (w.heap.size ≤ j ∧ j < w3.heap.size)) br vS (.slice (some ⟨g, 0, none⟩) (d.wet.length + 1) cap) { d with wet := d.wet ++ [e] } ∧
      Turn G w (w3.setCell ⟨br, 1, none⟩ (.slice (some ⟨g, 0, none⟩) (d.wet.length + 1) cap)) := by
  have hs1 := h1.size
  have hs2 := h2.size
  have hT : Turn G w (w3.setCell ⟨br, 1, none⟩ (.slice (some ⟨g, 0, none⟩) (d.wet.length + 1) cap)) := (((Turn.refl G w).grown h1 (fun g hg => by cases hg)).grown h2 (fun g' hg' => .inl (h.inW g' hg'))).put _ h.inD _
  have hsame : ∀ j, j < w.heap.size → vW.ownBlock ≠ some j → w3.heap[j]? = w.heap[j]? := fun j hj hn => (h2.block j (by omega) (fun e => hn e.symm)).trans (h1.block j hj (by simp))
  have hset : ∀ j, j ≠ br → (w3.setCell ⟨br, 1, none⟩ (.slice (some ⟨g, 0, none⟩) (d.wet.length + 1) cap)).heap[j]? = w3.heap[j]? := fun j hj => Below.heap_setCell w3 _ _ j hj
  have hgbr : g ≠ br := by
    intro e
    rcases hat with ha | ha
    · exact h.neW ha e
    · have := h.box.lt; omega
  have hbox3 : Blk w3 br 43 #[vS, vW, .int .i64 d.limit, .int .i64 d.fuse, .bool d.off, .int .i64 d.ops] := (hsame br h.box.lt (fun e => h.neW e rfl)).trans h.box
  refine ⟨⟨?_, own_same h.sure (fun g' hg' => (hset g' (h.neS hg')).trans (hsame g' (h.sure.lt g' hg').2 (h.neSW hg'))), ?_, .inl h.inD, fun g' hg' => .inl (h.inS g' hg'), fun g' hg' => ?_, fun i hi => ?_⟩, hT⟩
  · simpa using hbox3.put 1 (.slice (some ⟨g, 0, none⟩) (d.wet.length + 1) cap)
  · have e1 : (d.wet ++ [e]).length = d.wet.length + 1 := by simp
    have e2 : (d.wet ++ [e]).flatMap wE = d.wet.flatMap wE ++ wE e := by rw [List.flatMap_append, List.flatMap_cons, List.flatMap_nil, List.append_nil]
    show World.ownsRow _ 0 59 2 _ (d.wet ++ [e]).length ((d.wet ++ [e]).flatMap wE)
    rw [e1, e2]
    exact own_same ho (fun g' hg' => by cases hg'; exact hset g hgbr)
  · have hgg : g = g' := Option.some.inj hg'
    rcases hat with ha | ha
    · exact .inl (hgg ▸ h.inW g ha)
    · exact .inr ⟨by omega, by omega⟩
  · have hsz : (w3.setCell ⟨br, 1, none⟩ (.slice (some ⟨g, 0, none⟩) (d.wet.length + 1) cap)).heap.size = w3.heap.size := by simp [World.setCell]
    rw [hsz]
    rcases hi with hi | hi
    · have := h.lt i hi; omega
    · exact hi.2
set_option maxRecDepth 100000 in
theorem refWrite_any (h : RefIn w G br vS vW d) (hok : d.Ok) (hwl : d.wet.length ≤ 999998) (hop : d.ops ≤ 1000000) (i : Int) (s : ByteArray) :
    Calls Try.prog 17 #[.pointer (some ⟨br, 0, none⟩), .int .i64 i, .string s] w fun e w' => e = .returned (.int .i64 (d.write i s).1) ∧ (∃ G', RefAt w' G' br (d.write i s).2 ∧ ∀ j, G' j → G j ∨ w.heap.size ≤ j) ∧ Turn G w w' := by
  obtain ⟨AS, cS, rfl, _⟩ := SlV_of_any h.sure
  have hat : RefAt w G br d := ⟨_, _, h⟩
  have HAT := Lib.hid (show (∃ G', RefAt w G' br d ∧ ∀ j, G' j → G j ∨ w.heap.size ≤ j) ∧ Turn G w w from ⟨⟨G, hat, fun j hj => .inl hj⟩, Turn.refl G w⟩)
  have c0 := h.box.cell 0
  have c3 := h.box.cell 2
  have c5 := h.box.cell 4
  simp at c0 c3 c5
  unfold Dv.write
  by_cases hoff : d.off = true
  · rw [if_pos hoff]
    rw [hoff] at c5
    clear h hat hok
    go_enter Try.func17, Try.ntmps17
    go_wp2_with fail
    go_ret
    exact ⟨rfl, HAT.out⟩
  · rw [if_neg hoff]
    have hoff' : d.off = false := by simpa using hoff
    rw [hoff'] at c5
    by_cases hbad : s.size ≠ 512 ∨ i < 0 ∨ (d.size : Int) ≤ i
    · rw [if_pos hbad]
      clear h hat hok
      by_cases hs : s.size = 512
      · by_cases hn : i < 0
        · clear hbad
          go_enter Try.func17, Try.ntmps17
          go_wp2_with fail
          go_ret
          exact ⟨rfl, HAT.out⟩
        · have hge : (d.size : Int) ≤ i := by omega
          clear hbad
          go_enter Try.func17, Try.ntmps17
          go_wp2_with fail
          go_ret
          exact ⟨rfl, HAT.out⟩
      · have hs' : ((s.size : Int) != 512) = true := by rw [bne_iff_ne]; omega
        clear hbad hs
        go_enter Try.func17, Try.ntmps17
        go_wp2_with fail
        go_ret
        exact ⟨rfl, HAT.out⟩
    · rw [if_neg hbad]
      have hs : s.size = 512 := by omega
      have hn : ¬ i < 0 := by omega
      have hge : ¬ (d.size : Int) ≤ i := by omega
      clear hbad
      by_cases hlim : 0 ≤ d.limit ∧ d.limit ≤ i
      · rw [if_pos hlim]
        obtain ⟨hl0, hl1⟩ := hlim
        clear h hat hok
        go_enter Try.func17, Try.ntmps17
        go_wp2_with fail
        go_ret
        exact ⟨rfl, HAT.out⟩
      · rw [if_neg hlim]
        have hLIM : (¬ 0 ≤ d.limit) ∨ (0 ≤ d.limit ∧ ¬ d.limit ≤ i) := by omega
        by_cases hf : d.fuse = 0
        · rw [if_pos hf]
          have HPW := Lib.hid (refPower_no h hf)
          clear h hat hok hlim hf HAT hoff
          rcases hLIM with hl | ⟨hl, hl2⟩
          · go_enter Try.func17, Try.ntmps17
            go_wp2_with fail
            refine HPW.out.mono ?_
            rintro e w1 ⟨rfl, hd, ht⟩
            have HD := Lib.hid (And.intro hd ht); clear hd ht
            go_wp2_with fail
            go_ret
            exact ⟨rfl, ⟨G, ⟨_, _, HD.out.1⟩, fun j hj => .inl hj⟩, HD.out.2⟩
          · go_enter Try.func17, Try.ntmps17
            go_wp2_with fail
            refine HPW.out.mono ?_
            rintro e w1 ⟨rfl, hd, ht⟩
            have HD := Lib.hid (And.intro hd ht); clear hd ht
            go_wp2_with fail
            go_ret
            exact ⟨rfl, ⟨G, ⟨_, _, HD.out.1⟩, fun j hj => .inl hj⟩, HD.out.2⟩
        · rw [if_neg hf]
          have HPW := Lib.hid (refPower_yes h hf hok.f0 hok.f1 hok.o0 hop)
          obtain ⟨D, hD⟩ : ∃ D, d.pow = D := ⟨_, rfl⟩
          have hR : ({ d.pow with wet := d.wet ++ [(i, s)] } : Dv) = { D with wet := D.wet ++ [(i, s)] } := by rw [← hD]; rfl
          have hwl2 : D.wet.length ≤ 999998 := by rw [← hD]; exact hwl
          rw [hR]
          rw [hD] at HPW
          have HWL := Lib.hid hwl2
          clear h hat hok hlim hf HAT hoff hwl2 hwl hR hD
          rcases hLIM with hl | ⟨hl, hl2⟩
          · go_enter Try.func17, Try.ntmps17
            go_wp2_with fail
            refine HPW.out.mono ?_
            rintro e w1 ⟨rfl, hd, ht⟩
            have b1 := hd.box.cell 1
            simp at b1
            have HD := Lib.hid (And.intro hd ht); clear hd ht
            go_wp2_with (at_builtin; refine wpList_app rfl _ _ 41 rfl 0 59 (.agg #[.int .i64 0, .string ⟨#[]⟩]) 2 24 Try.underlying41 infoW rfl (by decide) vW D.wet.length (D.wet.flatMap wE) rfl (own_kept HD.out.1.wet ((Below.refl _ _).alloc (Nat.le_refl _) _)) w1.heap.size 1 #[.int .i64 i, .string s] 59 rfl (Blk.new w1 _ _) rfl (by simp [Value.oneCell']) (by have := HWL.out; omega) (by decide) (Nat.zero_le _) _ rfl ?_; intro g cap w3 ho3 hg3 hat3 hlt3; have hbx3 := (HD.out.1.box.alloc (.cells #[.int .i64 i, .string s] 59)).grown hg3 (fun e => HD.out.1.neW e.symm rfl); have HA := Lib.hid (And.intro ho3 (And.intro hg3 (And.intro hat3 hlt3))); clear ho3 hg3 hat3 hlt3; have q1 := hbx3.cell 1; have p1 := hbx3.frozen 1; simp at q1)
            have hfin := RefIn.wrote (e := (i, s)) HD.out.1 (w2 := w1.alloc (.cells #[.int .i64 i, .string s] 59)) (World.grownBy_alloc w1 _ none) HA.out.2.1 HA.out.1 HA.out.2.2.1 HA.out.2.2.2
            have HF := Lib.hid hfin; clear hfin q1 p1 hbx3
            go_ret
            exact ⟨rfl, ⟨_, ⟨_, _, HF.out.1⟩, fun j hj => hj.imp id (fun h => Nat.le_trans HD.out.2.size h.1)⟩, HD.out.2.trans HF.out.2 (fun j hj => .inl hj)⟩
          · go_enter Try.func17, Try.ntmps17
            go_wp2_with fail
            refine HPW.out.mono ?_
            rintro e w1 ⟨rfl, hd, ht⟩
            have b1 := hd.box.cell 1
            simp at b1
            have HD := Lib.hid (And.intro hd ht); clear hd ht
            go_wp2_with (at_builtin; refine wpList_app rfl _ _ 41 rfl 0 59 (.agg #[.int .i64 0, .string ⟨#[]⟩]) 2 24 Try.underlying41 infoW rfl (by decide) vW D.wet.length (D.wet.flatMap wE) rfl (own_kept HD.out.1.wet ((Below.refl _ _).alloc (Nat.le_refl _) _)) w1.heap.size 1 #[.int .i64 i, .string s] 59 rfl (Blk.new w1 _ _) rfl (by simp [Value.oneCell']) (by have := HWL.out; omega) (by decide) (Nat.zero_le _) _ rfl ?_; intro g cap w3 ho3 hg3 hat3 hlt3; have hbx3 := (HD.out.1.box.alloc (.cells #[.int .i64 i, .string s] 59)).grown hg3 (fun e => HD.out.1.neW e.symm rfl); have HA := Lib.hid (And.intro ho3 (And.intro hg3 (And.intro hat3 hlt3))); clear ho3 hg3 hat3 hlt3; have q1 := hbx3.cell 1; have p1 := hbx3.frozen 1; simp at q1)
            have hfin := RefIn.wrote (e := (i, s)) HD.out.1 (w2 := w1.alloc (.cells #[.int .i64 i, .string s] 59)) (World.grownBy_alloc w1 _ none) HA.out.2.1 HA.out.1 HA.out.2.2.1 HA.out.2.2.2
            have HF := Lib.hid hfin; clear hfin q1 p1 hbx3
            go_ret
            exact ⟨rfl, ⟨_, ⟨_, _, HF.out.1⟩, fun j hj => hj.imp id (fun h => Nat.le_trans HD.out.2.size h.1)⟩, HD.out.2.trans HF.out.2 (fun j hj => .inl hj)⟩
end
end Go.Proofs.Ytlogdionhgabdaa
