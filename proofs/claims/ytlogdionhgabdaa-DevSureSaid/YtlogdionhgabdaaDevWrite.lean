/- A device: a sector is written. -/
import Derived.Test.YtlogdionhgabdaaDevRead
import Derived.Test.YtlogdionhgabdaaChainD
import Derived.BigQuiet
set_option linter.unusedVariables false
set_option linter.unusedSimpArgs false
namespace Go.Proofs.Ytlogdionhgabdaa
open Go Go.RowKit
open Sw
theorem infoStr : (Try.prog.info? 9).map (fun i => (i.zero, i.size, i.bytes)) = some (some (.string ⟨#[]⟩), 1, 16) := by kernel_rfl
/-- the worlds in which a device's struct and its map of writes lie so -/
structure WetC (bd bs bw : Nat) (fW : Int → Option Value) (d : Dv) (W : World) : Prop where
  box : Blk W bd 53 #[.int .i64 d.size, .map (some bs), .map (some bw), .int .i64 d.limit, .int .i64 d.fuse, .bool d.off, .int .i64 d.ops]
  wet : MapI W Try.prog 3 bw 8192 fW
section
variable {w w' : World} {F : Nat → Prop} {bd bs bw : Nat} {fS fW : Int → Option Value} {d : Dv}
theorem wet_val (h : DevIn w F bd bs bw fS fW d) (i : Int) : w.ownsRow 0 9 1 ((fW i).getD (.slice none 0 0)) (wetAt d.wet i).length ((wetAt d.wet i).map Value.string) := by
  by_cases hw : wetAt d.wet i = []
  · rw [hw, h.wetIs.no i hw]
    exact World.ownsRow_nil _ _ _ _
  · obtain ⟨v, hv, ho⟩ := h.wetIs.got i hw
    rw [hv]
    exact ho
theorem wet_block (h : DevIn w F bd bs bw fS fW d) {i : Int} {g : Nat} (hg : ((fW i).getD (.slice none 0 0)).ownBlock = some g) : fW i = some ((fW i).getD (.slice none 0 0)) ∧ F g ∧ g ≠ bd ∧ g ≠ bs ∧ g ≠ bw := by
  cases hf : fW i with
  | none => rw [hf] at hg; cases hg
  | some v =>
    rw [hf] at hg
    have hg' : v.ownBlock = some g := hg
    exact ⟨rfl, h.inR i v g hf hg', h.neR hf hg'⟩
/-- what a write leaves: the row of one place has grown, the map has it -/
theorem DevIn.wrote (h : DevIn w F bd bs bw fS fW d) {i : Int} {s : ByteArray} {w2 w3 w4 : World} {g cap : Nat} (h1 : w.grownBy w2 none) (h2 : w2.grownBy w3 ((fW i).getD (.slice none 0 0)).ownBlock) (h3 : w3.grownBy w4 (some bw)) {n : Nat}
    (ho : w3.ownsRow 0 9 1 (.slice (some ⟨g, 0, none⟩) ((wetAt d.wet i).length + 1) cap) ((wetAt d.wet i).length + 1) ((wetAt d.wet i).map Value.string ++ [.string s])) (hat : ((fW i).getD (.slice none 0 0)).ownBlock = some g ∨ g = w2.heap.size)
    (hg : g < w3.heap.size) (hm : MapI w4 Try.prog 3 bw n (updI fW i (.slice (some ⟨g, 0, none⟩) ((wetAt d.wet i).length + 1) cap))) (hi0 : 0 ≤ i) (hi1 : i < d.size) (hs8 : d.size ≤ 8192) (hk : ∀ e ∈ d.wet, 0 ≤ e.1 ∧ e.1 < d.size) :
    DevIn w4 (fun j => F j ∨ (w.heap.size ≤ j ∧ j < w4.heap.size)) bd bs bw fS (updI fW i (.slice (some ⟨g, 0, none⟩) ((wetAt d.wet i).length + 1) cap)) { d with wet := d.wet ++ [(i, s)] } ∧ Turn F w w4 := by
  have hro : ∀ g', ((fW i).getD (.slice none 0 0)).ownBlock = some g' → F g' ∧ g' ≠ bd ∧ g' ≠ bs ∧ g' ≠ bw := fun g' hg' => (wet_block h hg').2
  have hT : Turn F w w4 := (((Turn.refl F w).grown h1 (fun g' hg' => by cases hg')).grown h2 (fun g' hg' => .inl (hro g' hg').1)).grown h3 (fun g' hg' => by cases hg'; exact .inl h.inW)
  have hs12 : w.heap.size ≤ w2.heap.size := h1.size
  have hs23 : w2.heap.size ≤ w3.heap.size := h2.size
  have hs34 : w3.heap.size ≤ w4.heap.size := h3.size
  -- a block that is none of those turned
  have hsame : ∀ j, j < w.heap.size → ((fW i).getD (.slice none 0 0)).ownBlock ≠ some j → j ≠ bw → w4.heap[j]? = w.heap[j]? := fun j hj hn hb =>
    (h3.block j (by omega) (fun e => hb (by cases e; rfl))).trans ((h2.block j (by omega) (fun e => hn e.symm)).trans (h1.block j hj (by simp)))
  have hgb : g ≠ bw := by
    intro e
    subst e
    rcases hat with ha | ha
    · exact (hro g ha).2.2.2 rfl
    · have := h.wet.lt; omega
  have hgrow : w4.ownsRow 0 9 1 (.slice (some ⟨g, 0, none⟩) ((wetAt d.wet i).length + 1) cap) ((wetAt d.wet i).length + 1) ((wetAt d.wet i).map Value.string ++ [.string s]) :=
    own_same ho (fun g' hg' => by cases hg'; exact h3.block g hg (fun e => hgb (by cases e; rfl)))
  have hkey : ∀ j, I64 j → (updI fW i (.slice (some ⟨g, 0, none⟩) ((wetAt d.wet i).length + 1) cap) j).isSome = true → 0 ≤ j ∧ j < (8192 : Nat) := by
    intro j _ hj
    unfold updI at hj
    by_cases hji : j = i
    · subst hji; omega
    · rw [if_neg hji] at hj
      obtain ⟨v, hv⟩ := Option.isSome_iff_exists.1 hj
      have := (h.wetIs.mem hv).1
      obtain ⟨s', hs'⟩ := List.exists_mem_of_ne_nil _ this
      have := hk _ (wetAt_mem hs')
      simp only at this
      omega
  refine ⟨⟨?_, h.sure.same (hsame _ h.sure.lt (fun e => (hro _ e).2.2.1 rfl) h.ne), hm.tight Try.underlying3 hkey, h.sureIs, ?_, h.ne, .inl h.inD, .inl h.inS, .inl h.inW, ?_, ?_⟩, hT⟩
  · exact (hsame _ h.box.lt (fun e => (hro _ e).2.1 rfl) h.neW).trans h.box
  · refine ⟨fun j hj => ?_, fun j hj => ?_, fun a b v v' g' ha hb hv hv' => ?_⟩
    · rw [wetAt_snoc] at hj
      by_cases hij : i = j
      · rw [if_pos hij] at hj; simp at hj
      · rw [if_neg hij] at hj
        unfold updI
        rw [if_neg (Ne.symm hij)]
        exact h.wetIs.no j hj
    · rw [wetAt_snoc] at hj ⊢
      by_cases hij : i = j
      · subst hij
        rw [if_pos rfl] at hj ⊢
        refine ⟨_, by unfold updI; rw [if_pos rfl], ?_⟩
        rw [List.length_append, List.map_append]
        exact hgrow
      · rw [if_neg hij] at hj ⊢
        obtain ⟨v, hv, hov⟩ := h.wetIs.got j hj
        refine ⟨v, by unfold updI; rw [if_neg (Ne.symm hij)]; exact hv, own_same hov (fun g' hg' => hsame g' ((h.wetIs.mem hv).2.lt g' hg').2 (fun e => ?_) (h.neR hv hg').2.2)⟩
        have hf := (wet_block h e).1
        exact hij (h.wetIs.apart i j _ v g' hf hv e hg')
    · unfold updI at ha hb
      by_cases hai : a = i
      · by_cases hbi : b = i
        · rw [hai, hbi]
        · exfalso
          rw [if_pos hai] at ha
          rw [if_neg hbi] at hb
          have hgg : g = g' := by rw [← Option.some.inj ha] at hv; exact Option.some.inj hv
          rcases hat with hat | hat
          · exact hbi ((h.wetIs.apart i b _ v' g (wet_block h hat).1 hb hat (hgg ▸ hv')).symm)
          · have := (h.wetIs.lt hb hv'); omega
      · rw [if_neg hai] at ha
        by_cases hbi : b = i
        · exfalso
          rw [if_pos hbi] at hb
          have hgg : g = g' := by rw [← Option.some.inj hb] at hv'; exact Option.some.inj hv'
          rcases hat with hat | hat
          · exact hai ((h.wetIs.apart i a _ v g (wet_block h hat).1 ha hat (hgg ▸ hv)).symm)
          · have := (h.wetIs.lt ha hv); omega
        · rw [if_neg hbi] at hb
          exact h.wetIs.apart a b v v' g' ha hb hv hv'
  · intro j v g' hf hv
    unfold updI at hf
    by_cases hji : j = i
    · rw [if_pos hji] at hf
      have hgg : g = g' := by rw [← Option.some.inj hf] at hv; exact Option.some.inj hv
      rcases hat with hat | hat
      · exact .inl (hgg ▸ (hro g hat).1)
      · exact .inr ⟨by omega, by omega⟩
    · rw [if_neg hji] at hf
      exact .inl (h.inR j v g' hf hv)
  · intro j hj
    rcases hj with hj | hj
    · have := h.lt j hj; omega
    · exact hj.2
set_option maxRecDepth 100000 in
theorem devWrite_put (h : DevIn w F bd bs bw fS fW d) (hok : d.Ok) (hwl : d.wet.length ≤ 999998) (hop : d.ops ≤ 1000000) (i : Int) (s : ByteArray) (hoff : d.off = false) (hs : s.size = 512) (hi0 : 0 ≤ i) (hi1 : i < d.size) (hlim : ¬ (0 ≤ d.limit ∧ d.limit ≤ i)) (hf : d.fuse ≠ 0) :
    Calls Try.prog 10 #[.pointer (some ⟨bd, 0, none⟩), .int .i64 i, .string s] w fun e w' => e = .returned (.int .i64 0) ∧ (∃ F', DevAt w' F' bd { d.pow with wet := d.wet ++ [(i, s)] } ∧ ∀ j, F' j → F j ∨ w.heap.size ≤ j) ∧ Turn F w w' := by
  have c0 := h.box.cell 0
  have c3 := h.box.cell 3
  have c5 := h.box.cell 5
  simp [hoff] at c0 c3 c5
  have hsz8 := hok.size
  have hI : I64 i := I64.mk (by omega) (by omega)
  have hPW := devPower_yes h hf hok.f0 hok.f1 hok.o0 hop
  have hge : ¬ ((d.size : Int) ≤ i) := by omega
  have hneg : ¬ (i < 0) := by omega
  have hLIM : (¬ 0 ≤ d.limit) ∨ (0 ≤ d.limit ∧ ¬ d.limit ≤ i) := by omega
  have HOK := Lib.hid (And.intro hok (And.intro hwl (And.intro hi0 hi1)))
  have HPW := Lib.hid hPW; clear hPW hf hlim hoff h hok hwl
  rcases hLIM with hl | ⟨hl, hl2⟩
  · go_enter Try.func10, Try.ntmps10
    go_wp2_with fail
    refine HPW.out.mono ?_
    rintro e w1 ⟨rfl, hd, ht⟩
    have HD := Lib.hid (And.intro hd ht)
    have hv0 := wet_val hd i
    obtain ⟨v0, hv0e⟩ : ∃ v0, (fW i).getD (.slice none 0 0) = v0 := ⟨_, rfl⟩
    rw [hv0e] at hv0
    have hC : WetC bd bs bw fW d.pow w1.drew := ⟨hd.drew.box, hd.drew.wet⟩
    have j2 : ∀ m : Held (WetC bd bs bw fW d.pow), (HeldW m).cell? ⟨bd, 2, none⟩ = some (.map (some bw)) := fun m => (HeldW_spec m).box.cell 2
    have jl : ∀ m : Held (WetC bd bs bw fW d.pow), (Instr.lookup 51 (.map (some bw)) (.int .i64 i) false).run Try.prog (HeldW m) = .ok v0 (HeldW m) := fun m => by
      rw [(HeldW_spec m).wet.look Try.underlying3 Try.underlying51 (zeroSl _) hI, hv0e]
    have HC := Lib.hid hC; clear hC
    have HC2 := Lib.hid (show WetC bd bs bw fW d.pow (w1.drew.alloc (.cells #[.string s] 9)) from ⟨hd.drew.box.alloc _, hd.drew.wet.alloc _⟩)
    have HV := Lib.hid (And.intro hv0e hv0); clear hv0e hv0 hd ht
    go_wp2_with fail
    refine wp_region_mixD (WetC bd bs bw fW d.pow) [(0, true), (1, true), (2, true), (3, true), (4, true), (5, true), (6, true), (7, true), (8, true), (9, true), (10, true), (11, true), (12, false), (13, false), (14, false)] (by kernel_rfl) (by kernel_rfl) ?_
    simp only [pickP, List.filterMap_cons, List.filterMap_nil, List.getElem?_toArray, List.getElem?_cons_succ, List.getElem?_cons_zero, Option.map_some]
    repeat (apply mixD_first; apply Exists.intro; refine ⟨fun m => ?_, HC.out, ?_⟩; · (go_big_quiet_step (fail); exact wpQuiet_nil rfl))
    refine mixD_forced HC.out ?_
    go_wp2_with fail
    show mixD _ _ _ _ _ _ _
    refine mixD_forced HC2.out ?_
    go_wp2_with (at_builtin; refine wpList_app rfl _ _ 40 rfl 0 9 (.string ⟨#[]⟩) 1 16 Try.underlying40 infoStr rfl (by decide) v0 (wetAt d.wet i).length ((wetAt d.wet i).map Value.string) rfl (own_kept (own_drew HV.out.2) ((Below.refl _ _).alloc (Nat.le_refl _) _)) w1.heap.size 1 #[.string s] 9 rfl (Blk.new w1.drew _ _) rfl (by simp [Value.oneCell']) (by have := wetAt_len d.wet i; have := HOK.out.2.1; omega) (by decide) (Nat.zero_le _) _ rfl ?_; intro g cap w3 ho3 hg3 hat3 hlt3)
    have HA := Lib.hid (And.intro ho3 (And.intro hg3 (And.intro hat3 hlt3))); clear ho3 hg3 hat3 hlt3
    have HN := Lib.hid (show (some bw ≠ v0.ownBlock) ∧ (some bd ≠ v0.ownBlock) from ⟨fun e => (wet_block HD.out.1 (i := i) (g := bw) (by rw [HV.out.1]; exact e.symm)).2.2.2.2 rfl, fun e => (wet_block HD.out.1 (i := i) (g := bd) (by rw [HV.out.1]; exact e.symm)).2.2.1 rfl⟩)
    have HM := Lib.hid ((HD.out.1.drew.wet.alloc (.cells #[.string s] 9)).kept HA.out.2.1 HN.out.1)
    show mixD _ _ _ _ _ _ _
    refine mixD_forced (show WetC bd bs bw fW d.pow w3 from ⟨(HD.out.1.drew.box.alloc (.cells #[.string s] 9)).grown HA.out.2.1 HN.out.2, HM.out⟩) ?_
    go_wp2_with (at_mapUpdate; refine wpList_storeI rfl _ _ _ 51 rfl 3 40 Try.underlying3 Try.underlying51 bw 8192 fW rfl HM.out (by unfold maxLen; omega) i rfl hI _ rfl ?_; intro w4 hm4 hg4)
    have HB := Lib.hid (And.intro hm4 hg4); clear hm4 hg4
    show mixD _ _ _ _ _ _ _
    refine mixD_nil ?_
    clear j2 jl
    go_wp2_with fail
    go_ret
    have hfin := DevIn.wrote (s := s) HD.out.1 (w2 := w1.drew.alloc (.cells #[.string s] 9)) (grown_of_drew (World.grownBy_alloc w1.drew _ none)) (by rw [HV.out.1]; exact HA.out.2.1) HB.out.2 HA.out.1 (by rw [HV.out.1]; exact HA.out.2.2.1) HA.out.2.2.2 HB.out.1 hi0 hi1 HOK.out.1.size HOK.out.1.wet
    exact ⟨rfl, ⟨_, ⟨bs, bw, _, _, hfin.1⟩, fun j hj => hj.imp id (fun h => Nat.le_trans HD.out.2.size h.1)⟩, HD.out.2.trans hfin.2 (fun j hj => .inl hj)⟩
  · go_enter Try.func10, Try.ntmps10
    go_wp2_with fail
    refine HPW.out.mono ?_
    rintro e w1 ⟨rfl, hd, ht⟩
    have HD := Lib.hid (And.intro hd ht)
    have hv0 := wet_val hd i
    obtain ⟨v0, hv0e⟩ : ∃ v0, (fW i).getD (.slice none 0 0) = v0 := ⟨_, rfl⟩
    rw [hv0e] at hv0
    have hC : WetC bd bs bw fW d.pow w1.drew := ⟨hd.drew.box, hd.drew.wet⟩
    have j2 : ∀ m : Held (WetC bd bs bw fW d.pow), (HeldW m).cell? ⟨bd, 2, none⟩ = some (.map (some bw)) := fun m => (HeldW_spec m).box.cell 2
    have jl : ∀ m : Held (WetC bd bs bw fW d.pow), (Instr.lookup 51 (.map (some bw)) (.int .i64 i) false).run Try.prog (HeldW m) = .ok v0 (HeldW m) := fun m => by
      rw [(HeldW_spec m).wet.look Try.underlying3 Try.underlying51 (zeroSl _) hI, hv0e]
    have HC := Lib.hid hC; clear hC
    have HC2 := Lib.hid (show WetC bd bs bw fW d.pow (w1.drew.alloc (.cells #[.string s] 9)) from ⟨hd.drew.box.alloc _, hd.drew.wet.alloc _⟩)
    have HV := Lib.hid (And.intro hv0e hv0); clear hv0e hv0 hd ht
    go_wp2_with fail
    refine wp_region_mixD (WetC bd bs bw fW d.pow) [(0, true), (1, true), (2, true), (3, true), (4, true), (5, true), (6, true), (7, true), (8, true), (9, true), (10, true), (11, true), (12, false), (13, false), (14, false)] (by kernel_rfl) (by kernel_rfl) ?_
    simp only [pickP, List.filterMap_cons, List.filterMap_nil, List.getElem?_toArray, List.getElem?_cons_succ, List.getElem?_cons_zero, Option.map_some]
    repeat (apply mixD_first; apply Exists.intro; refine ⟨fun m => ?_, HC.out, ?_⟩; · (go_big_quiet_step (fail); exact wpQuiet_nil rfl))
    refine mixD_forced HC.out ?_
    go_wp2_with fail
    show mixD _ _ _ _ _ _ _
    refine mixD_forced HC2.out ?_
    go_wp2_with (at_builtin; refine wpList_app rfl _ _ 40 rfl 0 9 (.string ⟨#[]⟩) 1 16 Try.underlying40 infoStr rfl (by decide) v0 (wetAt d.wet i).length ((wetAt d.wet i).map Value.string) rfl (own_kept (own_drew HV.out.2) ((Below.refl _ _).alloc (Nat.le_refl _) _)) w1.heap.size 1 #[.string s] 9 rfl (Blk.new w1.drew _ _) rfl (by simp [Value.oneCell']) (by have := wetAt_len d.wet i; have := HOK.out.2.1; omega) (by decide) (Nat.zero_le _) _ rfl ?_; intro g cap w3 ho3 hg3 hat3 hlt3)
    have HA := Lib.hid (And.intro ho3 (And.intro hg3 (And.intro hat3 hlt3))); clear ho3 hg3 hat3 hlt3
    have HN := Lib.hid (show (some bw ≠ v0.ownBlock) ∧ (some bd ≠ v0.ownBlock) from ⟨fun e => (wet_block HD.out.1 (i := i) (g := bw) (by rw [HV.out.1]; exact e.symm)).2.2.2.2 rfl, fun e => (wet_block HD.out.1 (i := i) (g := bd) (by rw [HV.out.1]; exact e.symm)).2.2.1 rfl⟩)
    have HM := Lib.hid ((HD.out.1.drew.wet.alloc (.cells #[.string s] 9)).kept HA.out.2.1 HN.out.1)
    show mixD _ _ _ _ _ _ _
    refine mixD_forced (show WetC bd bs bw fW d.pow w3 from ⟨(HD.out.1.drew.box.alloc (.cells #[.string s] 9)).grown HA.out.2.1 HN.out.2, HM.out⟩) ?_
    go_wp2_with (at_mapUpdate; refine wpList_storeI rfl _ _ _ 51 rfl 3 40 Try.underlying3 Try.underlying51 bw 8192 fW rfl HM.out (by unfold maxLen; omega) i rfl hI _ rfl ?_; intro w4 hm4 hg4)
    have HB := Lib.hid (And.intro hm4 hg4); clear hm4 hg4
    show mixD _ _ _ _ _ _ _
    refine mixD_nil ?_
    clear j2 jl
    go_wp2_with fail
    go_ret
    have hfin := DevIn.wrote (s := s) HD.out.1 (w2 := w1.drew.alloc (.cells #[.string s] 9)) (grown_of_drew (World.grownBy_alloc w1.drew _ none)) (by rw [HV.out.1]; exact HA.out.2.1) HB.out.2 HA.out.1 (by rw [HV.out.1]; exact HA.out.2.2.1) HA.out.2.2.2 HB.out.1 hi0 hi1 HOK.out.1.size HOK.out.1.wet
    exact ⟨rfl, ⟨_, ⟨bs, bw, _, _, hfin.1⟩, fun j hj => hj.imp id (fun h => Nat.le_trans HD.out.2.size h.1)⟩, HD.out.2.trans hfin.2 (fun j hj => .inl hj)⟩
set_option maxRecDepth 100000 in
/-- a sector is written, whatever comes of it -/
theorem devWrite_any (h : DevIn w F bd bs bw fS fW d) (hok : d.Ok) (hwl : d.wet.length ≤ 999998) (hop : d.ops ≤ 1000000) (i : Int) (s : ByteArray) :
    Calls Try.prog 10 #[.pointer (some ⟨bd, 0, none⟩), .int .i64 i, .string s] w fun e w' => e = .returned (.int .i64 (d.write i s).1) ∧ (∃ F', DevAt w' F' bd (d.write i s).2 ∧ ∀ j, F' j → F j ∨ w.heap.size ≤ j) ∧ Turn F w w' := by
  have hat : DevAt w F bd d := ⟨bs, bw, fS, fW, h⟩
  have HAT := Lib.hid (show (∃ F', DevAt w F' bd d ∧ ∀ j, F' j → F j ∨ w.heap.size ≤ j) ∧ Turn F w w from ⟨⟨F, hat, fun j hj => .inl hj⟩, Turn.refl F w⟩)
  have c0 := h.box.cell 0
  have c3 := h.box.cell 3
  have c5 := h.box.cell 5
  simp at c0 c3 c5
  unfold Dv.write
  by_cases hoff : d.off = true
  · rw [if_pos hoff]
    rw [hoff] at c5
    clear h hat hok
    go_enter Try.func10, Try.ntmps10
    go_wp2_with fail
    go_ret
    exact ⟨rfl, HAT.out⟩
  · rw [if_neg hoff]
    have hoff' : d.off = false := by simpa using hoff
    rw [hoff'] at c5
    by_cases hbad : s.size ≠ 512 ∨ i < 0 ∨ (d.size : Int) ≤ i
    · rw [if_pos hbad]
      clear h hat hok
      by_cases hs : s.size = 512
      · by_cases hn : i < 0
        · clear hbad
          go_enter Try.func10, Try.ntmps10
          go_wp2_with fail
          go_ret
          exact ⟨rfl, HAT.out⟩
        · have hge : (d.size : Int) ≤ i := by omega
          clear hbad
          go_enter Try.func10, Try.ntmps10
          go_wp2_with fail
          go_ret
          exact ⟨rfl, HAT.out⟩
      · have hs' : ((s.size : Int) != 512) = true := by rw [bne_iff_ne]; omega
        clear hbad hs
        go_enter Try.func10, Try.ntmps10
        go_wp2_with fail
        go_ret
        exact ⟨rfl, HAT.out⟩
    · rw [if_neg hbad]
      have hs : s.size = 512 := by omega
      have hn : ¬ i < 0 := by omega
      have hge : ¬ (d.size : Int) ≤ i := by omega
      clear hbad
      by_cases hlim : 0 ≤ d.limit ∧ d.limit ≤ i
      · rw [if_pos hlim]
        obtain ⟨hl0, hl1⟩ := hlim
        clear h hat hok
        go_enter Try.func10, Try.ntmps10
        go_wp2_with fail
        go_ret
        exact ⟨rfl, HAT.out⟩
      · rw [if_neg hlim]
        by_cases hf : d.fuse = 0
        · rw [if_pos hf]
          have HPW := Lib.hid (devPower_no h hf)
          have hLIM : (¬ 0 ≤ d.limit) ∨ (0 ≤ d.limit ∧ ¬ d.limit ≤ i) := by omega
          clear h hat hok hlim hf HAT hoff
          rcases hLIM with hl | ⟨hl, hl2⟩
          · go_enter Try.func10, Try.ntmps10
            go_wp2_with fail
            refine HPW.out.mono ?_
            rintro e w1 ⟨rfl, hd, ht⟩
            have HD := Lib.hid (And.intro hd ht); clear hd ht
            go_wp2_with fail
            go_ret
            exact ⟨rfl, ⟨F, ⟨bs, bw, fS, fW, HD.out.1⟩, fun j hj => .inl hj⟩, HD.out.2⟩
          · go_enter Try.func10, Try.ntmps10
            go_wp2_with fail
            refine HPW.out.mono ?_
            rintro e w1 ⟨rfl, hd, ht⟩
            have HD := Lib.hid (And.intro hd ht); clear hd ht
            go_wp2_with fail
            go_ret
            exact ⟨rfl, ⟨F, ⟨bs, bw, fS, fW, HD.out.1⟩, fun j hj => .inl hj⟩, HD.out.2⟩
        · rw [if_neg hf]
          exact devWrite_put h hok hwl hop i s hoff' hs (by omega) (by omega) hlim hf
end
end Go.Proofs.Ytlogdionhgabdaa
