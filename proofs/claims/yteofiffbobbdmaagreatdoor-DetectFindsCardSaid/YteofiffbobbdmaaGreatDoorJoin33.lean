/- Several texts, joined for the limit of sixty files; each one opens with its own comment. -/
import Derived.Test.YteofiffbobbdmaaGreatDoorJoin19
import Derived.Test.YteofiffbobbdmaaGreatDoorJoin32
import Derived.Test.YteofiffbobbdmaaGreatDoorChecked
import Derived.Test.YteofiffbobbdmaaGreatDoorJoin10
import Derived.Test.YteofiffbobbdmaaGreatDoorJoin5
import Derived.Test.YteofiffbobbdmaaGreatDoorJoin26
import Derived.RegionTactic
import Derived.BigRegion
import Derived.Deep.RegionLaw
/- detect.of, All. -/
set_option linter.unusedVariables false
set_option linter.unusedSimpArgs false
namespace Sw
open Go
theorem getT_size {xs : List NE} {p : ByteArray} {n : Nat} (hu : Up ordS xs) (h : ∀ e ∈ xs, e.2.data.size ≤ n) : (getT xs p).data.size ≤ n := by
  rcases Classical.em (∃ e ∈ xs, e.1 = p) with ⟨e, he, rfl⟩ | hn
  · rw [getT_in hu he]; exact h e he
  · rw [getT_out hu (fun e he h => hn ⟨e, he, h⟩)]; exact Nat.zero_le _
end Sw
namespace Go.Proofs.YteofiffbobbdmaaGreatDoor
open Go Go.RowKit
open Sw
set_option maxRecDepth 100000 in
set_option maxHeartbeats 4000000 in
theorem of_any (w : World) (u1 u2 : Value) (l1 l2 : List MkE) (bt bm : Nat) (xs : List NE) (p : ByteArray) (h1 : SlV w 6 eCM u1 l1) (h2 : SlV w 6 eCM u2 l2) (hl1 : l1.length ≤ 100000) (hl2 : l2.length ≤ 100000)
    (hT : TreeAt w bt bm xs) (hxl : xs.length ≤ 1000) (hxd : ∀ e ∈ xs, e.2.data.size ≤ maxLen) (hp : p.size ≤ 90000) :
    Calls Tryz.prog 37 #[.agg #[u1, u2], .pointer (some ⟨bt, 0, none⟩), .string p] w fun e w' => e = .returned (.int .i64 (ofP (l1 ++ l2) xs p)) ∧ Below w.heap.size w w' := by
  have hb0 : Below w.heap.size w (w.alloc (.cells #[u1, u2] 24)) := (Below.refl _ w).alloc (Nat.le_refl _) _
  have HF := Lib.hid (findM_any (w.alloc (.cells #[u1, u2] 24)) u1 u2 l1 l2 p (h1.below hb0 (Nat.le_refl _)) (h2.below hb0 (Nat.le_refl _)) hl1 hl2)
  have H0 := Lib.hid (And.intro hb0 (hT.below hb0))
  have hsz := getT_size (p := p) hT.map.up hxd
  have HA := Lib.hid (show stateN ((findM (l1 ++ l2) p).getD ⟨0, 0, 0, 0, 0⟩) (findM (l1 ++ l2) p).isSome (getT xs p) = ofP (l1 ++ l2) xs p from rfl)
  clear h1 h2 hb0 hT hxd
  generalize ofP (l1 ++ l2) xs p = ans at *
  generalize (findM (l1 ++ l2) p).getD ⟨0, 0, 0, 0, 0⟩ = pr at *
  generalize (findM (l1 ++ l2) p).isSome = had at *
  obtain ⟨nd, hnd⟩ : ∃ nd, getT xs p = nd := ⟨_, rfl⟩
  rw [hnd] at HA hsz
  have HST := Lib.hid (fun W => HA.out ▸ state_any W pr had nd hsz)
  have HGT := Lib.hid (fun W (h : TreeAt W bt bm xs) => hnd ▸ treeGet_any W bt bm xs p h (by omega) hp)
  clear hnd HA hsz
  obtain ⟨a, b, c, d, s⟩ := pr
  simp only [Pr.c] at HF HST
  go_enter Tryz.func37, Tryz.ntmps37
  go_wp2_with fail
  refine HF.out.mono ?_
  rintro e w1 ⟨rfl, hb1⟩
  obtain ⟨W, hW⟩ : ∃ W, w1.alloc (.cells #[.int .i64 a, .int .i64 b, .int .u32 c, .int .i64 d, .int .u32 s] 75) = W := ⟨_, rfl⟩
  have hba : Below w1.heap.size w1 W := by rw [← hW]; exact (Below.refl _ w1).alloc (Nat.le_refl _) _
  have hBN : Blk W w1.heap.size 75 #[.int .i64 a, .int .i64 b, .int .u32 c, .int .i64 d, .int .u32 s] := by rw [← hW]; exact Blk.new _ _ _
  have hTW := (H0.out.2.below hb1).below hba
  have HB := Lib.hid ((H0.out.1.trans (hb1.mono H0.out.1.size)).trans (hba.mono (H0.out.1.trans (hb1.mono H0.out.1.size)).size))
  obtain ⟨N, hN⟩ : ∃ N, w1.heap.size = N := ⟨_, rfl⟩
  rw [hN] at hBN
  have k0 : ∀ m : Held (Aft W), (HeldW m).cell? ⟨N, 0, none⟩ = some (.int .i64 a) := fun m => (Aft.cell m hBN.lt).trans (hBN.cell 0)
  have k1 : ∀ m : Held (Aft W), (HeldW m).cell? ⟨N, 1, none⟩ = some (.int .i64 b) := fun m => (Aft.cell m hBN.lt).trans (hBN.cell 1)
  have k2 : ∀ m : Held (Aft W), (HeldW m).cell? ⟨N, 2, none⟩ = some (.int .u32 c) := fun m => (Aft.cell m hBN.lt).trans (hBN.cell 2)
  have k3 : ∀ m : Held (Aft W), (HeldW m).cell? ⟨N, 3, none⟩ = some (.int .i64 d) := fun m => (Aft.cell m hBN.lt).trans (hBN.cell 3)
  have k4 : ∀ m : Held (Aft W), (HeldW m).cell? ⟨N, 4, none⟩ = some (.int .u32 s) := fun m => (Aft.cell m hBN.lt).trans (hBN.cell 4)
  have HG := Lib.hid (fun m : Held (Aft W) => HGT.out (HeldW m) (hTW.below (HeldW_spec m)))
  have HWN := Lib.hid (And.intro hW hN)
  clear hba hTW hW hN hBN hb1 HF H0
  haveI := Aft.some W
  go_upto_region 2 with fail
  rw [HWN.out.1, HWN.out.2]
  refine wp_region_class (Aft W) (by kernel_rfl) (by kernel_rfl) (Aft.start W) ?_
  repeat (go_big_quiet_step (first | with_reducible exact held_below Aft.keep (HG.out _) | with_reducible exact held_below Aft.keep (HST.out _)))
  refine wpQuiet_nil ?_
  rintro _ ⟨nn, rfl⟩
  have HW := Lib.hid (HB.out.trans ((HeldW_spec nn : Below W.heap.size W (HeldW nn)).mono HB.out.size))
  clear k0 k1 k2 k3 k4
  go_wp2_with fail
  go_ret
  exact ⟨rfl, HW.out⟩
end Go.Proofs.YteofiffbobbdmaaGreatDoor
/- slices.Clone of a row of detect.Found: the same elements, in memory of the call's own. -/
set_option linter.unusedVariables false
set_option linter.unusedSimpArgs false
namespace Go.Proofs.YteofiffbobbdmaaGreatDoor
open Go Go.RowKit
open Sw
theorem infoEFD : (Tryz.prog.info? 55).map (fun i => (i.zero, i.size, i.bytes)) = some (some (.agg #[.string ⟨#[]⟩, .int .i64 0]), 2, 24) := by kernel_rfl
end Go.Proofs.YteofiffbobbdmaaGreatDoor
/- Rows of detect.Found: their cells. -/
set_option linter.unusedVariables false
set_option linter.unusedSimpArgs false
namespace Go.Proofs.YteofiffbobbdmaaGreatDoor
open Go Go.RowKit
open Sw
/-- a state's cells -/
def eCFD (e : ByteArray × Int) : List Value := [.string e.1, .int .i64 e.2]
theorem eCFD_len (e : ByteArray × Int) : (eCFD e).length = 2 := rfl
theorem eCFD_one (e : ByteArray × Int) : ∀ u ∈ eCFD e, u.oneCell' = true := by
  intro u hu
  simp only [eCFD, List.mem_cons, List.not_mem_nil, or_false] at hu
  rcases hu with rfl | rfl <;> rfl
end Go.Proofs.YteofiffbobbdmaaGreatDoor
/- detect.All. -/
set_option linter.unusedVariables false
set_option linter.unusedSimpArgs false
namespace Go.Proofs.YteofiffbobbdmaaGreatDoor
open Go Go.RowKit
open Sw
abbrev FdE := ByteArray × Int
theorem infoFd : (Tryz.prog.info? 55).map (fun i => (i.zero, i.size, i.bytes)) = some (some (.agg #[.string ⟨#[]⟩, .int .i64 0]), 2, 24) := by kernel_rfl
/-- a row of states that the call owns -/
def OwnFd (w : World) (base : Nat) (u : Value) (l : List FdE) : Prop := w.ownsRow base 55 2 u l.length (l.flatMap eCFD)
theorem OwnFd.app {w1 : World} {base g cap n : Nat} {l : List FdE} {x : FdE} (h : w1.ownsRow base 55 2 (.slice (some ⟨g, 0, none⟩) (n + 1) cap) (n + 1) (l.flatMap eCFD ++ [.string x.1, .int .i64 x.2])) (hn : l.length = n) : OwnFd w1 base (.slice (some ⟨g, 0, none⟩) (n + 1) cap) (l ++ [x]) := by
  unfold OwnFd
  rw [List.length_append, List.length_singleton, hn, List.flatMap_append]
  simpa [eCFD] using h
set_option maxRecDepth 100000 in
set_option maxHeartbeats 8000000 in
theorem detAll_any (w : World) (u1 u2 : Value) (l1 l2 : List MkE) (bt bm : Nat) (xs : List NE) (h1 : SlV w 6 eCM u1 l1) (h2 : SlV w 6 eCM u2 l2) (hl1 : l1.length ≤ 1000) (hl2 : l2.length ≤ 1000) (hp1 : ∀ m ∈ l1, m.1.size ≤ 90000) (hp2 : ∀ m ∈ l2, m.1.size ≤ 90000)
    (hT : TreeAt w bt bm xs) (hxl : xs.length ≤ 1000) (hxp : ∀ e ∈ xs, e.1.size ≤ 90000) (hxd : ∀ e ∈ xs, e.2.data.size ≤ maxLen) :
    Calls Tryz.prog 12 #[.agg #[u1, u2], .pointer (some ⟨bt, 0, none⟩)] w fun e w' => ∃ u, e = .returned u ∧ OwnFd w' w.heap.size u (allP (l1 ++ l2) xs) ∧ Below w.heap.size w w' := by
  obtain ⟨W0, hW0⟩ : ∃ W0, (w.alloc (.cells #[u1, u2] 24)).alloc (.cells #[.pointer (some ⟨bt, 0, none⟩)] 28) = W0 := ⟨_, rfl⟩
  have hb0 : Below w.heap.size w W0 := by rw [← hW0]; exact ((Below.refl _ w).alloc (Nat.le_refl _) _).alloc (by simp) _
  have hB0 : Blk W0 w.heap.size 24 #[u1, u2] := by rw [← hW0]; exact blk_fst _ _ _ _
  have hG0 : Blk W0 (w.heap.size + 1) 28 #[.pointer (some ⟨bt, 0, none⟩)] := by rw [← hW0]; exact blk_snd _ _ _ _
  have HP := Lib.hid (paths1_any W0 u1 u2 l1 l2 (w.heap.size + 1) _ bt bm xs (h1.below hb0 (Nat.le_refl _)) (h2.below hb0 (Nat.le_refl _)) hl1 hl2 hp1 hp2 hG0 (hT.below hb0) hxl hxp)
  have HW := Lib.hid hW0
  have H0 := Lib.hid (And.intro hb0 (And.intro hB0 (And.intro h1 (And.intro h2 hT))))
  have hps : ∀ p ∈ pathsS ((l1 ++ l2).map Prod.fst ++ xs.map Prod.fst), p.size ≤ 90000 := fun p hp => by
    rw [pathsS_mem, List.mem_append] at hp
    rcases hp with hp | hp
    · obtain ⟨m, hm, rfl⟩ := List.mem_map.1 hp
      exact (List.mem_append.1 hm).elim (hp1 m) (hp2 m)
    · obtain ⟨e, he, rfl⟩ := List.mem_map.1 hp
      exact hxp e he
  have hpl : (pathsS ((l1 ++ l2).map Prod.fst ++ xs.map Prod.fst)).length ≤ 3000 := Nat.le_trans (pathsS_len _) (by rw [List.length_append, List.length_map, List.length_map, List.length_append]; omega)
  have HA := Lib.hid (show allP (l1 ++ l2) xs = (pathsS ((l1 ++ l2).map Prod.fst ++ xs.map Prod.fst)).map fun p => (p, ofP (l1 ++ l2) xs p) from rfl)
  have HX := Lib.hid hxd
  generalize allP (l1 ++ l2) xs = ans at *
  generalize pathsS ((l1 ++ l2).map Prod.fst ++ xs.map Prod.fst) = ps at *
  have HPS := Lib.hid hps
  clear hb0 hB0 hG0 hW0 h1 h2 hT hps hp1 hp2 hxp hxd
  go_enter Tryz.func12, Tryz.ntmps12
  go_wp2_with fail
  rw [HW.out]
  refine HP.out.mono ?_
  rintro e w1 ⟨u, rfl, ho, hb1⟩
  rw [← flat_bE] at ho
  obtain ⟨A3, k3, rfl, hk3, -, -⟩ := SlV_of_any ho
  have H1 := Lib.hid (And.intro (SlV.of_own (l := ps) ho bE_len (by decide)) (And.intro (H0.out.1.trans (hb1.mono H0.out.1.size)) (H0.out.2.1.below hb1 H0.out.2.1.lt)))
  obtain ⟨n, hn⟩ : ∃ n, ps.length = n := ⟨_, rfl⟩
  rw [hn] at H1 hpl hk3
  rw [hn]
  have HN := Lib.hid hn
  clear ho hb1 hn HP
  go_wp2_with fail
  go_loopw [4, 12] (fun o iv wr => ∃ i : Nat, iv = .int .i64 i ∧ i ≤ n ∧ OwnFd wr w1.heap.size o ((ps.take i).map fun p => (p, ofP (l1 ++ l2) xs p)) ∧ Below w1.heap.size w1 wr) (fun _ iv _ => n - (intOf iv).toNat)
  case atStart => exact ⟨0, rfl, Nat.zero_le _, World.ownsRow_nil _ _ _ _, Below.refl _ _⟩
  case round =>
    obtain ⟨i, rfl, hi, ho, hb⟩ := hrel
    have hbw := H1.out.2.1.trans (hb.mono H1.out.2.1.size)
    have hbs := hbw.size
    have hB := H1.out.2.2.below hb H1.out.2.2.lt
    have q0 := hB.cell 0
    have q1 := hB.cell 1
    simp at q0 q1
    by_cases hlt : i < n
    · have hiL : i < ps.length := by have := HN.out; omega
      obtain ⟨A', c', hA', _, _, hso⟩ := H1.out.1.below hb (Nat.le_refl _)
      obtain ⟨rfl, rfl⟩ : A3 = A' ∧ k3 = c' := by injection hA' with e1 e2 e3; exact ⟨e1, e3⟩
      clear hA'
      obtain ⟨b, off, rfl, hbb, hcs⟩ := hso (by omega)
      have c0 := hcs i hiL 0 (by omega)
      simp only [bE, List.getElem?_cons_zero, Nat.add_zero, Nat.mul_one] at c0
      clear hcs hso
      have hi1 : (i : Int) < n := by omega
      have hq := HPS.out _ (List.getElem_mem hiL)
      have hst : (ps.take (i + 1)).map (fun p => (p, ofP (l1 ++ l2) xs p)) = (ps.take i).map (fun p => (p, ofP (l1 ++ l2) xs p)) ++ [(ps[i], ofP (l1 ++ l2) xs ps[i])] := by
        rw [List.take_succ_eq_append_getElem hiL, List.map_append]; rfl
      have hml : ((ps.take i).map fun p => (p, ofP (l1 ++ l2) xs p)).length = i := by rw [List.length_map, List.length_take]; omega
      obtain ⟨q, hx⟩ : ∃ x, ps[i] = x := ⟨_, rfl⟩
      simp only [hx] at c0 hq hst
      clear hx
      have HOF := Lib.hid (of_any wr u1 u2 l1 l2 bt bm xs q (H0.out.2.2.1.below hbw (Nat.le_refl _)) (H0.out.2.2.2.1.below hbw (Nat.le_refl _)) (by omega) (by omega) (H0.out.2.2.2.2.below hbw) hxl HX.out hq)
      obtain ⟨A4, k4, rfl, _, _, _⟩ := SlV_of_any ho
      have HO := Lib.hid ho
      have HR := Lib.hid (And.intro hst (And.intro hb hbw))
      have HML := Lib.hid hml
      clear ho hb hB hst hbw
      generalize (ps.take i).map (fun p => (p, ofP (l1 ++ l2) xs p)) = F at *
      unfold OwnFd at HO
      rw [hml] at HO ⊢
      clear hml
      generalize ofP (l1 ++ l2) xs q = st at *
      go_wp2_with fail
      refine HOF.out.mono ?_
      rintro e w2 ⟨rfl, hb2⟩
      have HO2 := Lib.hid (own_kept HO.out hb2)
      have HB2 := Lib.hid (HR.out.2.1.trans (hb2.mono HR.out.2.1.size))
      have hbs2 := HB2.out.size
      clear hb2 q0 q1
      go_wp2_with (at_builtin; refine wpList_app rfl _ _ 38 rfl w1.heap.size 55 (.agg #[.string ⟨#[]⟩, .int .i64 0]) 2 24 Tryz.underlying38 infoFd rfl (by decide) _ i _ rfl (HO2.out.alloc _) w2.heap.size 1 #[.string q, .int .i64 st] 55 rfl (Blk.new _ _ _) rfl (by simp [Value.oneCell']) (by omega) (by decide) (by simp; omega) _ rfl ?_; intro g cap w3 hown1 hgrow1 hat hlt1)
      have HNX := Lib.hid (And.intro (OwnFd.app (x := (q, st)) hown1 HML.out) (own_below HO2.out (HB2.out.alloc HB2.out.size _) hgrow1 (Nat.le_refl _) (by simp; omega)))
      clear hown1 hgrow1 hat hlt1
      go_wp2_with fail
      go_roundw
      case rel => exact ⟨i + 1, by go_num, by omega, by rw [HR.out.1]; exact HNX.out.1, HNX.out.2⟩
      case measure => simp [intOf]; omega
    · obtain rfl : i = n := by omega
      have hf : ps.take i = ps := List.take_of_length_le (by have := HN.out; omega)
      rw [hf, ← HA.out] at ho
      obtain ⟨A4, k4, rfl, _, _, _⟩ := SlV_of_any ho
      have h9 : OwnFd wr w.heap.size (.slice A4 ans.length k4) ans := own_wide ho H1.out.2.1.size
      have HF := Lib.hid (And.intro h9 hbw)
      clear h9
      clear ho hb hB hf hbw
      generalize ans.length = z at *
      go_wp2_with fail
      go_ret
      exact ⟨_, rfl, HF.out.1, HF.out.2⟩
end Go.Proofs.YteofiffbobbdmaaGreatDoor
/- The reference's All of a Base and a row of items. -/
set_option linter.unusedVariables false
set_option linter.unusedSimpArgs false
namespace Go.Proofs.YteofiffbobbdmaaGreatDoor
open Go Go.RowKit
open Sw
theorem infoF29 : (Tryz.prog.info? 36).map (fun i => (i.zero, i.size, i.bytes)) = some (some (.agg #[.string ⟨#[]⟩, .int .i64 0]), 2, 24) := by kernel_rfl
/-- a row of the reference's states that the call owns -/
def OwnF29 (w : World) (base : Nat) (u : Value) (l : List FdE) : Prop := w.ownsRow base 36 2 u l.length (l.flatMap eCFD)
theorem OwnF29.app {w1 : World} {base g cap n : Nat} {l : List FdE} {x : FdE} (h : w1.ownsRow base 36 2 (.slice (some ⟨g, 0, none⟩) (n + 1) cap) (n + 1) (l.flatMap eCFD ++ [.string x.1, .int .i64 x.2])) (hn : l.length = n) : OwnF29 w1 base (.slice (some ⟨g, 0, none⟩) (n + 1) cap) (l ++ [x]) := by
  unfold OwnF29
  rw [List.length_append, List.length_singleton, hn, List.flatMap_append]
  simpa [eCFD] using h
theorem OwnF29.slv {w : World} {base : Nat} {u : Value} {l : List FdE} (h : OwnF29 w base u l) : SlV w 2 eCFD u l := SlV.of_own h (fun _ => rfl) (by decide)
/-- what All answers -/
def AllAns (w' : World) (B : Nat) (l : List FdE) (e : Ending) : Prop := ∃ u, e = .returned u ∧ OwnF29 w' B u l
set_option maxRecDepth 100000 in
set_option maxHeartbeats 8000000 in
theorem refAllP_any (w : World) (u1 u2 : Value) (l1 l2 : List MkE) (h1 : SlV w 6 eCM u1 l1) (h2 : SlV w 6 eCM u2 l2) (hn1 : l1.length ≤ 100) (hn2 : l2.length ≤ 100) (hz1 : ∀ m ∈ l1 ++ l2, m.1.size ≤ 90000)
    (v : Value) (xs : List NE) (g1 : SlV w 5 eCSN v xs) (hm1 : xs.length ≤ 100) (hz2 : ∀ m ∈ xs, m.1.size ≤ 90000) (hup : Up ordS xs) (hxd : ∀ e ∈ xs, e.2.data.size ≤ maxLen) :
    Calls Tryz.prog 10 #[.agg #[u1, u2], v] w fun e w' => AllAns w' w.heap.size (allP (l1 ++ l2) xs) e ∧ Below w.heap.size w w' := by
  obtain ⟨W0, hW0⟩ : ∃ W0, w.alloc (.cells #[u1, u2] 24) = W0 := ⟨_, rfl⟩
  have hb0 : Below w.heap.size w W0 := by rw [← hW0]; exact (Below.refl _ w).alloc (Nat.le_refl _) _
  have hB0 : Blk W0 w.heap.size 24 #[u1, u2] := by rw [← hW0]; exact Blk.new _ _ _
  have hpp := refPathsP_any W0 u1 u2 l1 l2 (h1.below hb0 (Nat.le_refl _)) (h2.below hb0 (Nat.le_refl _)) hn1 hn2 hz1 v (.slice none 0 0) xs [] (g1.below hb0 (Nat.le_refl _)) ⟨none, 0, rfl, Nat.le_refl _, by simp [maxLen], SlOf.nil _ _ _ _⟩ hm1 (by simp) (by simpa using hz2)
  rw [List.append_nil] at hpp
  have HP := Lib.hid hpp
  have HW := Lib.hid hW0
  have H0 := Lib.hid (And.intro hb0 (And.intro hB0 (And.intro (And.intro h1 h2) g1)))
  have hpl : (pathsS ((l1 ++ l2).map Prod.fst ++ xs.map Prod.fst)).length ≤ 3000 := Nat.le_trans (pathsS_len _) (by rw [List.length_append, List.length_map, List.length_map, List.length_append]; omega)
  have HA := Lib.hid (show allP (l1 ++ l2) xs = (pathsS ((l1 ++ l2).map Prod.fst ++ xs.map Prod.fst)).map fun p => (p, ofP (l1 ++ l2) xs p) from rfl)
  have HX := Lib.hid (And.intro hup hxd)
  obtain ⟨ans, hans⟩ : ∃ ans, allP (l1 ++ l2) xs = ans := ⟨_, rfl⟩
  obtain ⟨ps, hps⟩ : ∃ ps, pathsS ((l1 ++ l2).map Prod.fst ++ xs.map Prod.fst) = ps := ⟨_, rfl⟩
  unfold PathsAns at HP
  rw [hps] at HP hpl HA
  rw [hans] at HA
  rw [hans]
  clear hb0 hB0 hW0 h1 h2 g1 hz1 hz2 hup hxd hpp hps hans
  go_enter Tryz.func10, Tryz.ntmps10
  go_wp2_with fail
  rw [HW.out]
  refine HP.out.mono ?_
  rintro e w1 ⟨⟨u, rfl, ho⟩, hb1⟩
  have hslu := ho.slv
  unfold OwnS at ho
  obtain ⟨A3, k3, rfl, hk3, -, -⟩ := SlV_of_any ho
  have H1 := Lib.hid (And.intro hslu (And.intro (H0.out.1.trans (hb1.mono H0.out.1.size)) (H0.out.2.1.below hb1 H0.out.2.1.lt)))
  obtain ⟨n, hn⟩ : ∃ n, ps.length = n := ⟨_, rfl⟩
  rw [hn] at H1 hpl hk3
  rw [hn]
  have HN := Lib.hid hn
  clear ho hb1 hn HP hslu
  go_wp2_with fail
  go_loopw [5, 14] (fun o iv wr => ∃ i : Nat, iv = .int .i64 i ∧ i ≤ n ∧ OwnF29 wr w1.heap.size o ((ps.take i).map fun p => (p, ofP (l1 ++ l2) xs p)) ∧ Below w1.heap.size w1 wr) (fun _ iv _ => n - (intOf iv).toNat)
  case atStart => exact ⟨0, rfl, Nat.zero_le _, World.ownsRow_nil _ _ _ _, Below.refl _ _⟩
  case round =>
    obtain ⟨i, rfl, hi, ho, hb⟩ := hrel
    have hbw := H1.out.2.1.trans (hb.mono H1.out.2.1.size)
    have hbs := hbw.size
    have hB := H1.out.2.2.below hb H1.out.2.2.lt
    have q0 := hB.cell 0
    have q1 := hB.cell 1
    simp at q0 q1
    by_cases hlt : i < n
    · have hiL : i < ps.length := by have := HN.out; omega
      obtain ⟨A', c', hA', _, _, hso⟩ := H1.out.1.below hb (Nat.le_refl _)
      obtain ⟨rfl, rfl⟩ : A3 = A' ∧ k3 = c' := by injection hA' with e1 e2 e3; exact ⟨e1, e3⟩
      clear hA'
      obtain ⟨b, off, rfl, hbb, hcs⟩ := hso (by omega)
      have c0 := hcs i hiL 0 (by omega)
      simp only [sE, List.getElem?_cons_zero, Nat.add_zero, Nat.mul_one] at c0
      clear hcs hso
      have hi1 : (i : Int) < n := by omega
      have hst : (ps.take (i + 1)).map (fun p => (p, ofP (l1 ++ l2) xs p)) = (ps.take i).map (fun p => (p, ofP (l1 ++ l2) xs p)) ++ [(ps[i], ofP (l1 ++ l2) xs ps[i])] := by
        rw [List.take_succ_eq_append_getElem hiL, List.map_append]; rfl
      have hml : ((ps.take i).map fun p => (p, ofP (l1 ++ l2) xs p)).length = i := by rw [List.length_map, List.length_take]; omega
      obtain ⟨q, hx⟩ : ∃ x, ps[i] = x := ⟨_, rfl⟩
      simp only [hx] at c0 hst
      clear hx
      have hst0 : ofP (l1 ++ l2) xs q = stateN ((findM (l1 ++ l2) q).getD ⟨0, 0, 0, 0, 0⟩) (findM (l1 ++ l2) q).isSome (getT xs q) := rfl
      have hff := refFindM_any wr u1 u2 l1 l2 q (H0.out.2.2.1.1.below hbw (Nat.le_refl _)) (H0.out.2.2.1.2.below hbw (Nat.le_refl _)) (by omega) (by omega)
      have hgg := fun W (hW : Below w.heap.size w W) => (show Calls Tryz.prog 36 #[v, .string q] W fun e w' => e = .returned (.agg (getT xs q).c) ∧ Below W.heap.size W w' from by
        have := ref16Get_any W v xs q (H0.out.2.2.2.below hW (Nat.le_refl _))
        rw [refGetT_eq xs q HX.out.1] at this
        exact this)
      have hsz := getT_size (p := q) HX.out.1 HX.out.2
      generalize (findM (l1 ++ l2) q).getD ⟨0, 0, 0, 0, 0⟩ = pr at *
      generalize (findM (l1 ++ l2) q).isSome = had at *
      obtain ⟨nd, hnd⟩ : ∃ nd, getT xs q = nd := ⟨_, rfl⟩
      rw [hnd] at hst0 hsz
      simp only [hnd] at hgg
      have HST := Lib.hid (fun W => hst0 ▸ refState_any W pr had nd hsz)
      have HGG := Lib.hid hgg
      have HFF := Lib.hid hff
      clear hff hgg hst0 hsz hnd
      obtain ⟨fa, fb, fc, fd, fs⟩ := pr
      obtain ⟨nk, nm, nt, ndd⟩ := nd
      simp only [Pr.c, Nd.c] at HFF HST HGG
      obtain ⟨A4, k4, rfl, _, _, _⟩ := SlV_of_any ho
      have HO := Lib.hid ho
      have HR := Lib.hid (And.intro hst (And.intro hb hbw))
      have HML := Lib.hid hml
      clear ho hb hB hst hbw
      generalize (ps.take i).map (fun p => (p, ofP (l1 ++ l2) xs p)) = F at *
      unfold OwnF29 at HO
      rw [hml] at HO ⊢
      clear hml
      generalize ofP (l1 ++ l2) xs q = st at *
      go_wp2_with fail
      refine HFF.out.mono ?_
      rintro e w2 ⟨rfl, hb2⟩
      clear q0 q1
      go_upto_region 6 with fail
      have hba : Below w2.heap.size w2 (w2.alloc (.cells #[.int .i64 fa, .int .i64 fb, .int .u32 fc, .int .i64 fd, .int .u32 fs] 75)) := (Below.refl _ w2).alloc (Nat.le_refl _) _
      have hBP : Blk (w2.alloc (.cells #[.int .i64 fa, .int .i64 fb, .int .u32 fc, .int .i64 fd, .int .u32 fs] 75)) w2.heap.size 75 #[.int .i64 fa, .int .i64 fb, .int .u32 fc, .int .i64 fd, .int .u32 fs] := Blk.new _ _ _
      generalize w2.alloc (.cells #[.int .i64 fa, .int .i64 fb, .int .u32 fc, .int .i64 fd, .int .u32 fs] 75) = w3 at *
      have hb3 := hb2.trans (hba.mono hb2.size)
      generalize w2.heap.size = G at *
      have H3 := Lib.hid (And.intro (HR.out.2.1.trans (hb3.mono HR.out.2.1.size)) (And.intro (HR.out.2.2.trans (hb3.mono HR.out.2.2.size)) (And.intro (own_kept HO.out hb3) hBP)))
      clear hb2 hba hBP hb3 HO HFF
      have k0 : ∀ m : Held (fun W => Blk W G 75 #[.int .i64 fa, .int .i64 fb, .int .u32 fc, .int .i64 fd, .int .u32 fs]), (HeldW m).cell? ⟨G, 0, none⟩ = some (.int .i64 fa) := fun m => (HeldW_spec m).cell 0
      have k1 : ∀ m : Held (fun W => Blk W G 75 #[.int .i64 fa, .int .i64 fb, .int .u32 fc, .int .i64 fd, .int .u32 fs]), (HeldW m).cell? ⟨G, 1, none⟩ = some (.int .i64 fb) := fun m => (HeldW_spec m).cell 1
      have k2 : ∀ m : Held (fun W => Blk W G 75 #[.int .i64 fa, .int .i64 fb, .int .u32 fc, .int .i64 fd, .int .u32 fs]), (HeldW m).cell? ⟨G, 2, none⟩ = some (.int .u32 fc) := fun m => (HeldW_spec m).cell 2
      have k3 : ∀ m : Held (fun W => Blk W G 75 #[.int .i64 fa, .int .i64 fb, .int .u32 fc, .int .i64 fd, .int .u32 fs]), (HeldW m).cell? ⟨G, 3, none⟩ = some (.int .i64 fd) := fun m => (HeldW_spec m).cell 3
      have k4' : ∀ m : Held (fun W => Blk W G 75 #[.int .i64 fa, .int .i64 fb, .int .u32 fc, .int .i64 fd, .int .u32 fs]), (HeldW m).cell? ⟨G, 4, none⟩ = some (.int .u32 fs) := fun m => (HeldW_spec m).cell 4
      have HC0 := Lib.hid H3.out.2.2.2.drew
      refine wp_region_mix (fun W => Blk W G 75 #[.int .i64 fa, .int .i64 fb, .int .u32 fc, .int .i64 fd, .int .u32 fs]) [(0, true), (1, true), (2, true), (3, true), (4, true), (5, true), (6, false), (7, false), (8, true), (9, false), (10, false), (11, true)] (by kernel_rfl) (by kernel_rfl) ?_
      simp only [pickP, List.filterMap_cons, List.filterMap_nil, List.getElem?_toArray, List.getElem?_cons_succ, List.getElem?_cons_zero, Option.map_some]
      repeat (apply mix_first; apply Exists.intro; refine ⟨fun m => ?_, HC0.out, ?_⟩; · (go_big_quiet_step (fail); exact wpQuiet_nil rfl))
      refine mix_forced HC0.out ?_
      go_wp2_with fail
      refine (HGG.out w3.drew H3.out.2.1.drew).mono ?_
      rintro e w4 ⟨rfl, hb4⟩
      have hb4' : Below w3.heap.size w3 w4 := (Below.refl w3.heap.size w3).drew.trans hb4
      have H4 := Lib.hid (And.intro (H3.out.1.trans (hb4'.mono H3.out.1.size)) (And.intro (own_kept H3.out.2.2.1 hb4') (H3.out.2.2.2.below hb4' H3.out.2.2.2.lt)))
      clear hb4 hb4' HGG HC0
      go_wp2_with fail
      show mixC _ _ _ _ _ _ _
      refine mix_forced H4.out.2.2 ?_
      go_wp2_with fail
      refine (HST.out w4).mono ?_
      rintro e w5 ⟨rfl, hb5⟩
      have H5 := Lib.hid (And.intro (H4.out.1.trans (hb5.mono H4.out.1.size)) (And.intro (own_kept H4.out.2.1 hb5) (H4.out.2.2.below hb5 H4.out.2.2.lt)))
      have hs5 := H5.out.1.size
      clear hb5 HST H4
      go_wp2_with fail
      show mixC _ _ _ _ _ _ _
      apply mix_first; apply Exists.intro; refine ⟨fun m => ?_, H5.out.2.2, ?_⟩; · (go_big_quiet_step (fail); exact wpQuiet_nil rfl)
      refine mix_forced H5.out.2.2 ?_
      go_wp2_with fail
      show mixC _ _ _ _ _ _ _
      refine mix_forced (H5.out.2.2.alloc _) ?_
      go_wp2_with (at_builtin; refine wpList_app rfl _ _ 32 rfl w1.heap.size 36 (.agg #[.string ⟨#[]⟩, .int .i64 0]) 2 24 Tryz.underlying32 infoF29 rfl (by decide) _ i _ rfl (H5.out.2.1.alloc _) w5.heap.size 1 #[.string q, .int .i64 st] 36 rfl (Blk.new _ _ _) rfl (by simp [Value.oneCell']) (by omega) (by decide) (by simp; omega) _ rfl ?_; intro g cap w6 hown1 hgrow1 hat hlt1)
      show mixC _ _ _ _ _ _ _
      have hB6 := (H5.out.2.2.alloc (.cells #[.string q, .int .i64 st] 36)).grown hgrow1 (fun e => own_ne_blk H5.out.2.1 H5.out.2.2 (by decide) e.symm)
      have HNX := Lib.hid (And.intro (OwnF29.app (x := (q, st)) hown1 HML.out) (And.intro (own_below H5.out.2.1 (H5.out.1.alloc H5.out.1.size _) hgrow1 (Nat.le_refl _) (by simp; omega)) hB6))
      clear hown1 hgrow1 hat hlt1 hB6
      apply mix_first; apply Exists.intro; refine ⟨fun m => ?_, HNX.out.2.2, ?_⟩; · (go_big_quiet_step (fail); exact wpQuiet_nil rfl)
      refine mix_nil HNX.out.2.2 ?_
      clear k0 k1 k2 k3 k4'
      go_wp2_with fail
      go_roundw
      case rel => exact ⟨i + 1, by go_num, by omega, by rw [HR.out.1]; exact HNX.out.1, HNX.out.2.1⟩
      case measure => simp [intOf]; omega
    · obtain rfl : i = n := by omega
      have hf : ps.take i = ps := List.take_of_length_le (by have := HN.out; omega)
      rw [hf, ← HA.out] at ho
      have h9 : OwnF29 wr w.heap.size _ ans := own_wide ho H1.out.2.1.size
      have HF := Lib.hid (And.intro (⟨_, rfl, h9⟩ : AllAns wr w.heap.size ans (.returned _)) hbw)
      clear h9 ho hb hB hf hbw q0 q1
      go_wp2_with fail
      go_ret
      exact HF.out
end Go.Proofs.YteofiffbobbdmaaGreatDoor
/- slices.Reverse of a row of detect.Found that the call owns. -/
set_option linter.unusedVariables false
set_option linter.unusedSimpArgs false
namespace Go.Proofs.YteofiffbobbdmaaGreatDoor
open Go Go.RowKit
open Sw
end Go.Proofs.YteofiffbobbdmaaGreatDoor
/- slices.Insert of one element into a row of detect.Found that the call owns. -/
set_option linter.unusedVariables false
set_option linter.unusedSimpArgs false
namespace Go.Proofs.YteofiffbobbdmaaGreatDoor
open Go Go.RowKit
open Sw
/-- behind the call: a row with one more element -/
def InsPostFD (base n : Nat) (xs : List Value) (row : Option Nat) (w : World) (e : Ending) (w' : World) : Prop :=
  ∃ g cap, e = .returned (.slice (some ⟨g, 0, none⟩) (n + 1) cap) ∧ w'.ownsRow base 55 2 (.slice (some ⟨g, 0, none⟩) (n + 1) cap) (n + 1) xs ∧ w.grownBy w' row ∧ (row = some g ∨ w.heap.size ≤ g)
end Go.Proofs.YteofiffbobbdmaaGreatDoor
/- slices.Delete of one element out of a row of detect.Found that the call owns. -/
set_option linter.unusedVariables false
set_option linter.unusedSimpArgs false
namespace Go.Proofs.YteofiffbobbdmaaGreatDoor
open Go Go.RowKit
open Sw
/-- behind the call: a row with one element less -/
def DelPostFD (base n : Nat) (xs : List Value) (row : Option Nat) (w : World) (e : Ending) (w' : World) : Prop :=
  ∃ v, e = .returned v ∧ w'.ownsRow base 55 2 v n xs ∧ w.grownBy w' row ∧ v.ownBlock = row
end Go.Proofs.YteofiffbobbdmaaGreatDoor
