/- Several texts, joined for the limit of sixty files; each one opens with its own comment. -/
import Derived.Test.YthnnnlbdbkdcaaaDoorJoin14
/- slices.Delete of one element out of a row of sorted.entry[string,swingle/api.Node] that the call owns. -/
set_option linter.unusedVariables false
set_option linter.unusedSimpArgs false
namespace Go.Proofs.YthnnnlbdbkdcaaaDoor
open Go Go.RowKit
open Sw
/-- behind the call: a row with one element less -/
def DelPostSN (base n : Nat) (xs : List Value) (row : Option Nat) (w : World) (e : Ending) (w' : World) : Prop :=
  ∃ v, e = .returned v ∧ w'.ownsRow base 82 5 v n xs ∧ w.grownBy w' row ∧ v.ownBlock = row
set_option maxRecDepth 100000 in
set_option maxHeartbeats 4000000 in
theorem slDeleteSN_any (w : World) (base : Nat) (v : Value) (n i : Nat) (xs : List Value) (hown : w.ownsRow base 82 5 v n xs) (h1c : ∀ u ∈ xs, u.oneCell' = true) (hi : i < n) (hn : n ≤ 1000000) :
    Calls Tryd.prog 49 #[v, .int .i64 i, .int .i64 ((i : Int) + 1)] w (DelPostSN base (n - 1) (xs.take (i * 5) ++ xs.drop ((i + 1) * 5)) v.ownBlock w) := by
  obtain ⟨g, cap, cur, rfl, hbg, hg, hnc, hcm, hcs, htk⟩ := own_form hown (by omega)
  obtain ⟨i0, hi0, hz0, hzs, hzb⟩ := info_parts infoESN
  have hxl : xs.length = n * 5 := hown.1
  have hc1 : cur.toList.length = cap * 5 := by rw [Array.length_toList]; exact hcs
  clear hown
  have hdl : (xs.drop ((i + 1) * 5)).length = (n - (i + 1)) * 5 := by rw [List.length_drop]; omega
  obtain ⟨r1, hr1⟩ : ∃ r1, (cur.toList.take (i * 5) ++ xs.drop ((i + 1) * 5) ++ cur.toList.drop (i * 5 + (xs.drop ((i + 1) * 5)).length)) = r1 := ⟨_, rfl⟩
  have hr1l : r1.length = cap * 5 := by
    rw [← hr1]
    simp only [List.length_append, List.length_take, List.length_drop, hc1, hxl]
    omega
  obtain ⟨W1, hW1⟩ : ∃ W1, w.drew.setRow g r1.toArray = W1 := ⟨_, rfl⟩
  have hap : ∀ ty a c', (i + 1 < n → a = ⟨g, (i + 1) * 5, none⟩) → (Builtin.append_ #[72, 72] ty #[.slice (some ⟨g, 0, none⟩) i cap, .slice (some a) (n - (i + 1)) c']).run Tryd.prog w.drew = .ok (.slice (some ⟨g, 0, none⟩) (n - 1) cap) W1 := fun ty a c' ha => by
    have := run_append_room (P := Tryd.prog) w.drew 72 ty 82 i0 Tryd.underlying72 hi0 g i cap cur hg.drew a (n - (i + 1)) c' (xs.drop ((i + 1) * 5)) (by rw [hdl, hzs]) (fun j u hj => by
      have hjl := (List.getElem?_eq_some_iff.1 hj).1
      rw [hdl] at hjl
      rw [ha (by omega)]
      refine hg.drew.at _ j u ?_
      rw [← htk, List.getElem?_drop, List.getElem?_take] at hj
      split at hj
      · rw [List.getElem?_drop]; exact hj
      · cases hj) (fun u hu => h1c u (List.mem_of_mem_drop hu)) (by omega) (by rw [hzs, hdl, hcs]; omega)
    rw [hzs, show i + (n - (i + 1)) = n - 1 by omega, hr1, hW1] at this
    exact this
  have hg1 : Blk W1 g 82 r1.toArray := by rw [← hW1]; exact hg.drew.setRow _
  have hgr1 : w.grownBy W1 (some g) := by rw [← hW1]; exact grown_of_drew (grown_setRow _ _ _)
  obtain ⟨r2, hcl, hr2s, hr2t⟩ := run_clear_rows (P := Tryd.prog) W1 72 82 (.agg #[.string ⟨#[]⟩, .int .i64 0, .int .i64 0, .int .u32 0, .string ⟨#[]⟩]) 5 Tryd.underlying72 Tryd.zeroValue82 rfl (by decide) g ((n - 1) * 5) 1 (cap - (n - 1)) (by omega) r1.toArray 82 hg1 (by rw [List.size_toArray, hr1l]; omega)
  obtain ⟨W2, hW2⟩ : ∃ W2, W1.setRow g r2 = W2 := ⟨_, rfl⟩
  simp only [hW2] at hcl
  have hg2 : Blk W2 g 82 r2 := by rw [← hW2]; exact hg1.setRow _
  have hgr2 : w.grownBy W2 (some g) := by rw [← hW2]; exact grown_trans hgr1 (grown_setRow _ _ _)
  have hx2 : r2.toList.take ((n - 1) * 5) = xs.take (i * 5) ++ xs.drop ((i + 1) * 5) := by
    rw [hr2t, List.toList_toArray, ← hr1]
    rw [List.take_left' (by simp only [List.length_append, List.length_take, hc1, hdl]; omega)]
    congr 1
    rw [← htk, List.take_take]
    congr 1; omega
  have hfin : DelPostSN base (n - 1) (xs.take (i * 5) ++ xs.drop ((i + 1) * 5)) (some g) w (.returned (.slice (some ⟨g, 0, none⟩) (n - 1) cap)) W2 :=
    ⟨_, rfl, own_mk hbg hg2 (by omega) hcm (by rw [hr2s, List.size_toArray, hr1l]) hx2, hgr2, rfl⟩
  have HF := Lib.hid hfin; clear hfin
  clear hx2 hgr2 hg2 hW2 hr2t hr2s hgr1 hg1 hW1 hr1l hr1 hdl hc1 hxl hi0 hz0 hzs hzb htk hcs hg h1c
  unfold maxLen at hcm
  have h1 : (i : Int) + 1 ≤ n := by omega
  have h2 : ¬ ((i : Int) = (i : Int) + 1) := by omega
  have h3 : (0 : Int) ≤ (i : Int) + 1 := by omega
  have h4 : ((i : Int) + 1).toNat = i + 1 := by omega
  have h5 : ((n - 1 : Nat) : Int) = (n : Int) - 1 := by omega
  have h6 : n - (n - 1) = 1 := by omega
  have h7 : ¬ cap = n - 1 := by omega
  have h8 : (i : Int) ≤ cap := by omega
  have h9 : i ≤ cap := by omega
  have h10 : i + 1 ≤ n := by omega
  obtain ⟨T, hT, hTa, _, _⟩ := slice_from (P := Tryd.prog) 72 82 5 Tryd.underlying72 (by kernel_rfl) Tryd.sizeOf82 g 0 n cap (i + 1) ((i : Int) + 1) (by omega) (by omega)
  have hap' : ∀ ty, (Builtin.append_ #[72, 72] ty #[.slice (some ⟨g, 0, none⟩) i cap, .slice (some T) (n - (i + 1)) (cap - (i + 1))]).run Tryd.prog w.drew = .ok (.slice (some ⟨g, 0, none⟩) (n - 1) cap) W1 := fun ty => hap ty T _ (fun h => by rw [hTa (by omega), Nat.zero_add])
  clear hap hTa
  go_enter Tryd.func49, Tryd.ntmps49
  go_wp2_with fail
  go_region_law (refine step_append_run rfl _ _ 72 72 rfl _ _ (by simp [Act.eval, Act.put]) (by simp [Act.eval, Act.put]) (hap' _) ?_)
  go_wp2_with (at_builtin; refine wpList_clear_rows _ rfl _ 72 rfl _ rfl (hcl _) ?_)
  go_ret
  exact HF.out
end Go.Proofs.YthnnnlbdbkdcaaaDoor
/- sorted.Map[string,swingle/api.Node]: New, find, Len, Clone, Drop, Put. -/
set_option linter.unusedVariables false
set_option linter.unusedSimpArgs false
namespace Go.Proofs.YthnnnlbdbkdcaaaDoor
open Go Go.RowKit
open Sw
section
variable {w w' : World} {bm : Nat} {xs : List (ByteArray × Nd)}
theorem SMapSN.lt (h : SMapSN w bm xs) : bm < w.heap.size := by obtain ⟨v, hb, _⟩ := h.row; exact hb.lt
theorem SMapSN.ord (h : SMapSN w bm xs) : w.cell? ⟨bm, 0, none⟩ = some ordFSN := by obtain ⟨v, hb, _⟩ := h.row; exact hb.cell 0
theorem own_grown_typ {w w' : World} {base : Nat} {e : TypeId} {size n : Nat} {v : Value} {l : List Value} (h : w.ownsRow base e size v n l) {g : Nat} {t : TypeId} {cs : Array Value} (hg : w.grownBy w' (some g)) (hB : Blk w g t cs) (hne : e ≠ t) : w'.ownsRow base e size v n l :=
  h.kept hg (by
    rcases h.2 with ⟨rfl, _⟩ | ⟨g', cap, cur, rfl, _, hg', _⟩
    · exact .inl rfl
    · right
      intro he
      have : g' = g := by simpa [Value.ownBlock] using he
      subst this
      exact Blk.other (hg' : Blk w g' e cur) hB hne rfl)
theorem SMapSN.grown (h : SMapSN w bm xs) {g : Nat} {t : TypeId} {cs : Array Value} (hg : w.grownBy w' (some g)) (hne : bm ≠ g) (hB : Blk w g t cs) (ht : 82 ≠ t) : SMapSN w' bm xs := by
  obtain ⟨v, hb, ho⟩ := h.row
  exact ⟨⟨v, hb.grown hg (by simpa using hne), own_grown_typ ho hg hB ht⟩, h.up, h.ok⟩
theorem SMapSN.below (h : SMapSN w bm xs) (hb : Below w.heap.size w w') : SMapSN w' bm xs := by
  obtain ⟨v, hB, ho⟩ := h.row
  exact ⟨⟨v, hB.below hb hB.lt, own_kept ho hb⟩, h.up, h.ok⟩
theorem SMapSN.drewN (h : SMapSN w bm xs) (n : Nat) : SMapSN (w.drewN n) bm xs := h.below (below_drewN (Below.refl _ _) n)
theorem SMapSN.drew (h : SMapSN w bm xs) : SMapSN w.drew bm xs := h.below (Below.refl _ _).drew
theorem flat1SN (xs : List (ByteArray × Nd)) : ∀ u ∈ xs.flatMap eCSN, u.oneCell' = true := fun u hu => by
  rw [List.mem_flatMap] at hu
  obtain ⟨x, _, hx⟩ := hu
  exact eCSN_one x u hx
end
set_option maxRecDepth 100000 in
theorem srtNewSN_any (w : World) :
    Calls Tryd.prog 23 #[ordFSN] w fun e w' => ∃ bm, e = .returned (.pointer (some ⟨bm, 0, none⟩)) ∧ SMapSN w' bm [] ∧ w.heap.size ≤ bm ∧ Below w.heap.size w w' := by
  have hB := Blk.new w 74 #[ordFSN, .slice none 0 0]
  have hb1 := (Below.refl w.heap.size w).alloc (Nat.le_refl _) (.cells #[ordFSN, .slice none 0 0] 74)
  have HF := Lib.hid (⟨⟨_, hB, World.ownsRow_nil _ 0 82 5⟩, List.Pairwise.nil, fun e he => by cases he⟩ : SMapSN _ w.heap.size [])
  have HB := Lib.hid hb1; clear hb1 hB
  have hnf : ∀ W, (binOp .eql 52 ordFSN Value.nilFunc).run Tryd.prog W = .ok (.bool false) W := fun W => by kernel_rfl
  go_enter Tryd.func23, Tryd.ntmps23
  go_wp2_with fail
  go_ret
  exact ⟨_, rfl, HF.out, Nat.le_refl _, HB.out⟩
/-- the answer of find -/
def FindPostSN (k : ByteArray) (xs : List (ByteArray × Nd)) (w : World) (e : Ending) (w' : World) : Prop :=
  e = .returned (.tuple #[.int .i64 (lbN ordS k xs), .bool (inN ordS k xs)]) ∧ Below w.heap.size w w'
set_option maxRecDepth 100000 in
set_option maxHeartbeats 2000000 in
theorem srtFindSN_any (w : World) (bm : Nat) (xs : List (ByteArray × Nd)) (k : ByteArray) (h : SMapSN w bm xs) (hn : xs.length ≤ 1000000) (hk : okS k) :
    Calls Tryd.prog 44 #[.pointer (some ⟨bm, 0, none⟩), Value.string k] w (FindPostSN k xs w) := by
  obtain ⟨v, hb, ho⟩ := h.row
  have hord := h.ord
  have hB := Blk.new w 50 #[.pointer (some ⟨bm, 0, none⟩)]
  have hb1 := (Below.refl w.heap.size w).alloc (Nat.le_refl _) (.cells #[.pointer (some ⟨bm, 0, none⟩)] 50)
  have hg1 : (w.alloc (.cells #[.pointer (some ⟨bm, 0, none⟩)] 50)).cell? ⟨w.heap.size, 0, none⟩ = some (.pointer (some ⟨bm, 0, none⟩)) := hB.cell 0
  have hbl := hb.lt
  have hm0 := (hb1.cell (p := ⟨bm, 0, none⟩) hbl).trans hord
  have hm1 : (w.alloc (.cells #[.pointer (some ⟨bm, 0, none⟩)] 50)).cell? ⟨bm, 1, none⟩ = some v := (hb1.cell (p := ⟨bm, 1, none⟩) hbl).trans (hb.cell 1)
  have hsz := hB.lt
  obtain ⟨A, c, rfl, hc1, hc2, hsl⟩ := SlV.of_own (own_kept ho hb1) eCSN_len (by decide)
  have HS := Lib.hid (slSearchSN_any eCSN eCSN_len (fun e => ordS e.1 k) (w.alloc (.cells #[.pointer (some ⟨bm, 0, none⟩)] 50)) A xs.length c w.heap.size xs (Value.string k) rfl hn hsl
    (fun a b ha hb' hab hlt => by
      rcases Nat.lt_or_ge a b with h1 | h1
      · exact ordS_ord.trans _ _ _ (List.pairwise_iff_getElem.1 h.up a b ha hb' h1) hlt
      · obtain rfl : a = b := by omega
        exact hlt)
    (fun W x hx hbW => find1SN_any W w.heap.size bm x k (h.ok x hx) hk ((hbW.cell (p := ⟨w.heap.size, 0, none⟩) hsz).trans hg1) ((hbW.cell (p := ⟨bm, 0, none⟩) (Nat.lt_of_lt_of_le hbl hb1.size)).trans hm0)))
  have hv1 : w.cell? ⟨bm, 1, none⟩ = some (.slice A xs.length c) := hb.cell 1
  have HF := Lib.hid (fun e w' (hp : SrchPostSN (fun e : ByteArray × Nd => ordS e.1 k) xs (w.alloc (.cells #[.pointer (some ⟨bm, 0, none⟩)] 50)) e w') => (by
    obtain ⟨i, hi, h1, h2, rfl, hbw⟩ := hp
    have hl := lbN_eq ordS_ord k xs i hi h1 h2
    subst hl
    refine ⟨?_, hb1.trans (hbw.mono hb1.size)⟩
    rw [inN_eq ordS_ord] : FindPostSN k xs w e w'))
  clear hb1 hB hb ho hord h hsl hm0 hm1 hg1 hsz
  generalize xs.length = n at *
  go_enter Tryd.func44, Tryd.ntmps44
  go_wp2_with fail
  refine HS.out.mono ?_
  rintro e w2 hp
  obtain ⟨rfl, hb2⟩ := HF.out _ _ hp
  clear hp HF HS
  go_wp2_with fail
  go_ret2
  exact ⟨rfl, hb2⟩
set_option maxRecDepth 100000 in
theorem srtLenSN_any (w : World) (bm : Nat) (xs : List (ByteArray × Nd)) (h : SMapSN w bm xs) :
    Calls Tryd.prog 27 #[.pointer (some ⟨bm, 0, none⟩)] w fun e w' => e = .returned (.int .i64 xs.length) ∧ w = w' := by
  obtain ⟨v, hb, ho⟩ := h.row
  obtain ⟨A, c, rfl, hc1, hc2, hsl⟩ := SlV.of_own ho eCSN_len (by decide)
  have hv1 : w.cell? ⟨bm, 1, none⟩ = some (.slice A xs.length c) := hb.cell 1
  clear hsl hb ho h
  generalize xs.length = n at *
  go_enter Tryd.func27, Tryd.ntmps27
  go_wp2_with fail
  go_ret
  exact ⟨rfl, rfl⟩
set_option maxRecDepth 100000 in
set_option maxHeartbeats 2000000 in
theorem srtDropSN_any (w : World) (bm : Nat) (xs : List (ByteArray × Nd)) (k : ByteArray) (h : SMapSN w bm xs) (hn : xs.length ≤ 1000000) (hk : okS k) :
    Calls Tryd.prog 30 #[.pointer (some ⟨bm, 0, none⟩), Value.string k] w fun e w' => e = .returned (.bool (inN ordS k xs)) ∧ SMapSN w' bm (dropN ordS k xs) ∧ w.grownBy w' (some bm) := by
  have HS := Lib.hid (srtFindSN_any w bm xs k h hn hk)
  have HM := Lib.hid h
  cases hin : inN ordS k xs with
  | false =>
    rw [drop_miss k xs hin]
    unfold FindPostSN at HS
    rw [hin] at HS
    clear hin h
    go_enter Tryd.func30, Tryd.ntmps30
    go_wp2_with fail
    refine HS.out.mono ?_
    rintro e w1 ⟨rfl, hb1⟩
    go_wp2_with fail
    go_ret
    exact ⟨rfl, HM.out.below hb1, grown_below hb1⟩
  | true =>
    have hlt := inN_lt ordS_ord hin
    have hd := drop_hit k xs hin
    unfold FindPostSN at HS
    rw [hin] at HS
    obtain ⟨i, hi⟩ : ∃ i, lbN ordS k xs = i := ⟨_, rfl⟩
    rw [hi] at HS hlt hd
    have HD := Lib.hid hd; clear hd hin hi h
    go_enter Tryd.func30, Tryd.ntmps30
    go_wp2_with fail
    refine HS.out.mono ?_
    rintro e w1 ⟨rfl, hb1⟩
    obtain ⟨v, hb, ho⟩ := (HM.out.below hb1).row
    obtain ⟨A, c, rfl, _, _, _⟩ := SlV.of_own ho eCSN_len (by decide)
    have hv1 : w1.cell? ⟨bm, 1, none⟩ = some (.slice A xs.length c) := hb.cell 1
    have HC := Lib.hid (slCloneSN_any eCSN eCSN_len eCSN_one w1 _ xs (SlV.of_own ho eCSN_len (by decide)) hn)
    have HB := Lib.hid hb; clear hb ho
    have hb1S := hb1.size
    have HB1 := Lib.hid hb1; clear hb1
    go_wp2_with fail
    refine HC.out.mono ?_
    rintro e w2 ⟨v2, rfl, ho2, hb2⟩
    have hB2 := HB.out.below hb2 HB.out.lt
    have HE := Lib.hid (slDeleteSN_any w2 w1.heap.size v2 xs.length i (xs.flatMap eCSN) ho2 (flat1SN xs) hlt hn)
    have hi1 : (i : Int) + 1 ≤ 1000001 := by omega
    clear HC
    have HB2 := Lib.hid hb2; clear hb2
    have HBM := Lib.hid hB2; clear hB2
    have HFin := Lib.hid (fun (v3 : Value) (w3 : World) (ho3 : w3.ownsRow w1.heap.size 82 5 v3 (xs.length - 1) ((xs.flatMap eCSN).take (i * 5) ++ (xs.flatMap eCSN).drop ((i + 1) * 5))) (hg3 : w2.grownBy w3 v2.ownBlock) (hbx : Blk w3 bm 74 #[ordFSN, .slice A xs.length c]) => (by
      have hd := HD.out
      have hxs : (xs.flatMap eCSN).take (i * 5) ++ (xs.flatMap eCSN).drop ((i + 1) * 5) = (dropN ordS k xs).flatMap eCSN := by rw [hd, List.flatMap_append, flat_take eCSN_len, flat_drop eCSN_len]
      have hl : (dropN ordS k xs).length = xs.length - 1 := by rw [hd, List.length_append, List.length_take, List.length_drop]; omega
      rw [hxs, ← hl] at ho3
      exact ⟨⟨v3, hbx.put 1 v3, own_wide (own_grown_typ ho3 (grown_put (grown_refl w3 (some bm)) 1 v3) hbx (by decide)) (Nat.zero_le _)⟩, drop_up ordS_ord k xs HM.out.up, fun e he => HM.out.ok e (drop_mem k xs e he)⟩ : SMapSN (w3.setCell ⟨bm, 1, none⟩ v3) bm (dropN ordS k xs)))
    have HG := Lib.hid (fun (v3 : Value) (w3 : World) (hg3 : w2.grownBy w3 v2.ownBlock) => (by
      have h1 := grown_below (row := some bm) HB1.out
      have h2 := grown_trans h1 ⟨HB2.out.os, HB2.out.tape, HB2.out.output, HB2.out.size, fun k hk _ => HB2.out.block k hk⟩
      have h3 := grown_sub h2 hg3 (fun k hk => by have := (ho2.lt k hk).1; omega)
      exact ⟨grown_put h3 1 v3, HBM.out.grown hg3 (fun e => by have := (ho2.lt bm e.symm).1; have := HB.out.lt; omega)⟩ : w.grownBy (w3.setCell ⟨bm, 1, none⟩ v3) (some bm) ∧ Blk w3 bm 74 #[ordFSN, .slice A xs.length c]))
    clear ho2
    generalize v2.ownBlock = rw2 at *
    go_wp2_with fail
    refine HE.out.mono ?_
    rintro e w3 ⟨v3, rfl, ho3, hg3, hr3⟩
    obtain ⟨hgf, hbx⟩ := HG.out v3 w3 hg3
    have hF := HFin.out v3 w3 ho3 hg3 hbx
    have hc1 : w3.cell? ⟨bm, 1, none⟩ = some (.slice A xs.length c) := hbx.cell 1
    have hf1 := hbx.frozen 1
    obtain ⟨A3, c3, rfl, _, _, _⟩ := SlV_of_any ho3
    have HZ := Lib.hid (And.intro hF hgf); clear hF hgf hbx ho3 hg3 hr3
    go_wp2_with fail
    go_ret
    exact ⟨rfl, HZ.out.1, HZ.out.2⟩
end Go.Proofs.YthnnnlbdbkdcaaaDoor
