/- sorted.Map[int,string]: New, find, Len, Clone, Drop, Put. -/
import Derived.Test.YtpnkgldpmalklaaSrtFindIS
import Derived.Test.YtpnkgldpmalklaaSlDeleteIS
set_option linter.unusedVariables false
set_option linter.unusedSimpArgs false
namespace Go.Proofs.Ytpnkgldpmalklaa
open Go Go.RowKit
open Sw
section
variable {w w' : World} {bm : Nat} {xs : List (Int × ByteArray)}
theorem SMapIS.lt (h : SMapIS w bm xs) : bm < w.heap.size := by obtain ⟨v, hb, _⟩ := h.row; exact hb.lt
theorem SMapIS.ord (h : SMapIS w bm xs) : w.cell? ⟨bm, 0, none⟩ = some ordFIS := by obtain ⟨v, hb, _⟩ := h.row; exact hb.cell 0
theorem own_grown_typ {w w' : World} {base : Nat} {e : TypeId} {size n : Nat} {v : Value} {l : List Value} (h : w.ownsRow base e size v n l) {g : Nat} {t : TypeId} {cs : Array Value} (hg : w.grownBy w' (some g)) (hB : Blk w g t cs) (hne : e ≠ t) : w'.ownsRow base e size v n l :=
  h.kept hg (by
    rcases h.2 with ⟨rfl, _⟩ | ⟨g', cap, cur, rfl, _, hg', _⟩
    · exact .inl rfl
    · right
      intro he
      have : g' = g := by simpa [Value.ownBlock] using he
      subst this
      exact Blk.other (hg' : Blk w g' e cur) hB hne rfl)
theorem SMapIS.grown (h : SMapIS w bm xs) {g : Nat} {t : TypeId} {cs : Array Value} (hg : w.grownBy w' (some g)) (hne : bm ≠ g) (hB : Blk w g t cs) (ht : 100 ≠ t) : SMapIS w' bm xs := by
  obtain ⟨v, hb, ho⟩ := h.row
  exact ⟨⟨v, hb.grown hg (by simpa using hne), own_grown_typ ho hg hB ht⟩, h.up, h.ok⟩
theorem SMapIS.below (h : SMapIS w bm xs) (hb : Below w.heap.size w w') : SMapIS w' bm xs := by
  obtain ⟨v, hB, ho⟩ := h.row
  exact ⟨⟨v, hB.below hb hB.lt, own_kept ho hb⟩, h.up, h.ok⟩
theorem SMapIS.drewN (h : SMapIS w bm xs) (n : Nat) : SMapIS (w.drewN n) bm xs := h.below (below_drewN (Below.refl _ _) n)
theorem SMapIS.drew (h : SMapIS w bm xs) : SMapIS w.drew bm xs := h.below (Below.refl _ _).drew
theorem flat1IS (xs : List (Int × ByteArray)) : ∀ u ∈ xs.flatMap eCIS, u.oneCell' = true := fun u hu => by
  rw [List.mem_flatMap] at hu
  obtain ⟨x, _, hx⟩ := hu
  exact eCIS_one x u hx
end
set_option maxRecDepth 100000 in
theorem srtNewIS_any (w : World) :
    Calls Try.prog 12 #[ordFIS] w fun e w' => ∃ bm, e = .returned (.pointer (some ⟨bm, 0, none⟩)) ∧ SMapIS w' bm [] ∧ w.heap.size ≤ bm ∧ Below w.heap.size w w' := by
  have hB := Blk.new w 95 #[ordFIS, .slice none 0 0]
  have hb1 := (Below.refl w.heap.size w).alloc (Nat.le_refl _) (.cells #[ordFIS, .slice none 0 0] 95)
  have HF := Lib.hid (⟨⟨_, hB, World.ownsRow_nil _ 0 100 2⟩, List.Pairwise.nil, fun e he => by cases he⟩ : SMapIS _ w.heap.size [])
  have HB := Lib.hid hb1; clear hb1 hB
  have hnf : ∀ W, (binOp .eql 27 ordFIS Value.nilFunc).run Try.prog W = .ok (.bool false) W := fun W => by kernel_rfl
  go_enter Try.func12, Try.ntmps12
  go_wp2_with fail
  go_ret
  exact ⟨_, rfl, HF.out, Nat.le_refl _, HB.out⟩
/-- the answer of find -/
def FindPostIS (k : Int) (xs : List (Int × ByteArray)) (w : World) (e : Ending) (w' : World) : Prop :=
  e = .returned (.tuple #[.int .i64 (lbN ordI k xs), .bool (inN ordI k xs)]) ∧ Below w.heap.size w w'
set_option maxRecDepth 100000 in
set_option maxHeartbeats 2000000 in
theorem srtFindIS_any (w : World) (bm : Nat) (xs : List (Int × ByteArray)) (k : Int) (h : SMapIS w bm xs) (hn : xs.length ≤ 1000000) (hk : okI k) :
    Calls Try.prog 52 #[.pointer (some ⟨bm, 0, none⟩), Value.int .i64 k] w (FindPostIS k xs w) := by
  obtain ⟨v, hb, ho⟩ := h.row
  have hord := h.ord
  have hB := Blk.new w 25 #[.pointer (some ⟨bm, 0, none⟩)]
  have hb1 := (Below.refl w.heap.size w).alloc (Nat.le_refl _) (.cells #[.pointer (some ⟨bm, 0, none⟩)] 25)
  have hg1 : (w.alloc (.cells #[.pointer (some ⟨bm, 0, none⟩)] 25)).cell? ⟨w.heap.size, 0, none⟩ = some (.pointer (some ⟨bm, 0, none⟩)) := hB.cell 0
  have hbl := hb.lt
  have hm0 := (hb1.cell (p := ⟨bm, 0, none⟩) hbl).trans hord
  have hm1 : (w.alloc (.cells #[.pointer (some ⟨bm, 0, none⟩)] 25)).cell? ⟨bm, 1, none⟩ = some v := (hb1.cell (p := ⟨bm, 1, none⟩) hbl).trans (hb.cell 1)
  have hsz := hB.lt
  obtain ⟨A, c, rfl, hc1, hc2, hsl⟩ := SlV.of_own (own_kept ho hb1) eCIS_len (by decide)
  have HS := Lib.hid (slSearchIS_any eCIS eCIS_len (fun e => ordI e.1 k) (w.alloc (.cells #[.pointer (some ⟨bm, 0, none⟩)] 25)) A xs.length c w.heap.size xs (Value.int .i64 k) rfl hn hsl
    (fun a b ha hb' hab hlt => by
      rcases Nat.lt_or_ge a b with h1 | h1
      · exact ordI_ord.trans _ _ _ (List.pairwise_iff_getElem.1 h.up a b ha hb' h1) hlt
      · obtain rfl : a = b := by omega
        exact hlt)
    (fun W x hx hbW => find1IS_any W w.heap.size bm x k (h.ok x hx) hk ((hbW.cell (p := ⟨w.heap.size, 0, none⟩) hsz).trans hg1) ((hbW.cell (p := ⟨bm, 0, none⟩) (Nat.lt_of_lt_of_le hbl hb1.size)).trans hm0)))
  have hv1 : w.cell? ⟨bm, 1, none⟩ = some (.slice A xs.length c) := hb.cell 1
  have HF := Lib.hid (fun e w' (hp : SrchPostIS (fun e : Int × ByteArray => ordI e.1 k) xs (w.alloc (.cells #[.pointer (some ⟨bm, 0, none⟩)] 25)) e w') => (by
    obtain ⟨i, hi, h1, h2, rfl, hbw⟩ := hp
    have hl := lbN_eq ordI_ord k xs i hi h1 h2
    subst hl
    refine ⟨?_, hb1.trans (hbw.mono hb1.size)⟩
    rw [inN_eq ordI_ord] : FindPostIS k xs w e w'))
  clear hb1 hB hb ho hord h hsl hm0 hm1 hg1 hsz
  generalize xs.length = n at *
  go_enter Try.func52, Try.ntmps52
  go_wp2_with fail
  refine HS.out.mono ?_
  rintro e w2 hp
  obtain ⟨rfl, hb2⟩ := HF.out _ _ hp
  clear hp HF HS
  go_wp2_with fail
  go_ret2
  exact ⟨rfl, hb2⟩
set_option maxRecDepth 100000 in
theorem srtLenIS_any (w : World) (bm : Nat) (xs : List (Int × ByteArray)) (h : SMapIS w bm xs) :
    Calls Try.prog 20 #[.pointer (some ⟨bm, 0, none⟩)] w fun e w' => e = .returned (.int .i64 xs.length) ∧ w = w' := by
  obtain ⟨v, hb, ho⟩ := h.row
  obtain ⟨A, c, rfl, hc1, hc2, hsl⟩ := SlV.of_own ho eCIS_len (by decide)
  have hv1 : w.cell? ⟨bm, 1, none⟩ = some (.slice A xs.length c) := hb.cell 1
  clear hsl hb ho h
  generalize xs.length = n at *
  go_enter Try.func20, Try.ntmps20
  go_wp2_with fail
  go_ret
  exact ⟨rfl, rfl⟩
set_option maxRecDepth 100000 in
theorem srtCloneIS_any (w : World) (bm : Nat) (xs : List (Int × ByteArray)) (h : SMapIS w bm xs) :
    Calls Try.prog 27 #[.pointer (some ⟨bm, 0, none⟩)] w fun e w' => ∃ b2, e = .returned (.pointer (some ⟨b2, 0, none⟩)) ∧ SMapIS w' b2 xs ∧ w.heap.size ≤ b2 ∧ Below w.heap.size w w' := by
  obtain ⟨v, hb, ho⟩ := h.row
  obtain ⟨A, c, rfl, _, _, _⟩ := SlV.of_own ho eCIS_len (by decide)
  have hv0 : w.cell? ⟨bm, 0, none⟩ = some ordFIS := hb.cell 0
  have hv1 : w.cell? ⟨bm, 1, none⟩ = some (.slice A xs.length c) := hb.cell 1
  have hbl : Below w.heap.size w (w.drew.alloc (.cells #[ordFIS, .slice A xs.length c] 95)) := (Below.refl _ _).drew.alloc (Nat.le_refl _) _
  have hus := h.up
  have hok := h.ok
  have HF := Lib.hid (⟨⟨.slice A xs.length c, Blk.new w.drew _ _, own_kept ho hbl⟩, hus, hok⟩ : SMapIS (w.drew.alloc (.cells #[ordFIS, .slice A xs.length c] 95)) w.heap.size xs)
  have HB := Lib.hid hbl; clear hbl hb ho h hus hok
  go_enter Try.func27, Try.ntmps27
  go_wp2_with fail
  go_region
  all_goals
    go_wp2_with fail
    go_ret
    exact ⟨_, rfl, HF.out, Nat.le_refl _, HB.out⟩
set_option maxRecDepth 100000 in
set_option maxHeartbeats 2000000 in
theorem srtDropIS_any (w : World) (bm : Nat) (xs : List (Int × ByteArray)) (k : Int) (h : SMapIS w bm xs) (hn : xs.length ≤ 1000000) (hk : okI k) :
    Calls Try.prog 18 #[.pointer (some ⟨bm, 0, none⟩), Value.int .i64 k] w fun e w' => e = .returned (.bool (inN ordI k xs)) ∧ SMapIS w' bm (dropN ordI k xs) ∧ w.grownBy w' (some bm) := by
  have HS := Lib.hid (srtFindIS_any w bm xs k h hn hk)
  have HM := Lib.hid h
  cases hin : inN ordI k xs with
  | false =>
    rw [drop_miss k xs hin]
    unfold FindPostIS at HS
    rw [hin] at HS
    clear hin h
    go_enter Try.func18, Try.ntmps18
    go_wp2_with fail
    refine HS.out.mono ?_
    rintro e w1 ⟨rfl, hb1⟩
    go_wp2_with fail
    go_ret
    exact ⟨rfl, HM.out.below hb1, grown_below hb1⟩
  | true =>
    have hlt := inN_lt ordI_ord hin
    have hd := drop_hit k xs hin
    unfold FindPostIS at HS
    rw [hin] at HS
    obtain ⟨i, hi⟩ : ∃ i, lbN ordI k xs = i := ⟨_, rfl⟩
    rw [hi] at HS hlt hd
    have HD := Lib.hid hd; clear hd hin hi h
    go_enter Try.func18, Try.ntmps18
    go_wp2_with fail
    refine HS.out.mono ?_
    rintro e w1 ⟨rfl, hb1⟩
    obtain ⟨v, hb, ho⟩ := (HM.out.below hb1).row
    obtain ⟨A, c, rfl, _, _, _⟩ := SlV.of_own ho eCIS_len (by decide)
    have hv1 : w1.cell? ⟨bm, 1, none⟩ = some (.slice A xs.length c) := hb.cell 1
    have HC := Lib.hid (slCloneIS_any eCIS eCIS_len eCIS_one w1 _ xs (SlV.of_own ho eCIS_len (by decide)) hn)
    have HB := Lib.hid hb; clear hb ho
    have hb1S := hb1.size
    have HB1 := Lib.hid hb1; clear hb1
    go_wp2_with fail
    refine HC.out.mono ?_
    rintro e w2 ⟨v2, rfl, ho2, hb2⟩
    have hB2 := HB.out.below hb2 HB.out.lt
    have HE := Lib.hid (slDeleteIS_any w2 w1.heap.size v2 xs.length i (xs.flatMap eCIS) ho2 (flat1IS xs) hlt hn)
    have hi1 : (i : Int) + 1 ≤ 1000001 := by omega
    clear HC
    have HB2 := Lib.hid hb2; clear hb2
    have HBM := Lib.hid hB2; clear hB2
    have HFin := Lib.hid (fun (v3 : Value) (w3 : World) (ho3 : w3.ownsRow w1.heap.size 100 2 v3 (xs.length - 1) ((xs.flatMap eCIS).take (i * 2) ++ (xs.flatMap eCIS).drop ((i + 1) * 2))) (hg3 : w2.grownBy w3 v2.ownBlock) (hbx : Blk w3 bm 95 #[ordFIS, .slice A xs.length c]) => (by
      have hd := HD.out
      have hxs : (xs.flatMap eCIS).take (i * 2) ++ (xs.flatMap eCIS).drop ((i + 1) * 2) = (dropN ordI k xs).flatMap eCIS := by rw [hd, List.flatMap_append, flat_take eCIS_len, flat_drop eCIS_len]
      have hl : (dropN ordI k xs).length = xs.length - 1 := by rw [hd, List.length_append, List.length_take, List.length_drop]; omega
      rw [hxs, ← hl] at ho3
      exact ⟨⟨v3, hbx.put 1 v3, own_wide (own_grown_typ ho3 (grown_put (grown_refl w3 (some bm)) 1 v3) hbx (by decide)) (Nat.zero_le _)⟩, drop_up ordI_ord k xs HM.out.up, fun e he => HM.out.ok e (drop_mem k xs e he)⟩ : SMapIS (w3.setCell ⟨bm, 1, none⟩ v3) bm (dropN ordI k xs)))
    have HG := Lib.hid (fun (v3 : Value) (w3 : World) (hg3 : w2.grownBy w3 v2.ownBlock) => (by
      have h1 := grown_below (row := some bm) HB1.out
      have h2 := grown_trans h1 ⟨HB2.out.os, HB2.out.tape, HB2.out.output, HB2.out.size, fun k hk _ => HB2.out.block k hk⟩
      have h3 := grown_sub h2 hg3 (fun k hk => by have := (ho2.lt k hk).1; omega)
      exact ⟨grown_put h3 1 v3, HBM.out.grown hg3 (fun e => by have := (ho2.lt bm e.symm).1; have := HB.out.lt; omega)⟩ : w.grownBy (w3.setCell ⟨bm, 1, none⟩ v3) (some bm) ∧ Blk w3 bm 95 #[ordFIS, .slice A xs.length c]))
    clear ho2
    generalize v2.ownBlock = rw2 at *
    go_wp2_with fail
    refine HE.out.mono ?_
    rintro e w3 ⟨v3, rfl, ho3, hg3, hr3⟩
    obtain ⟨hgf, hbx⟩ := HG.out v3 w3 hg3
    have hF := HFin.out v3 w3 ho3 hg3 hbx
    have hc1 : w3.cell? ⟨bm, 1, none⟩ = some (.slice A xs.length c) := hbx.cell 1
    have hf1 := hbx.frozen 1
    obtain ⟨A3, c3, rfl, _, _, _⟩ := SlV_of_any ho3
    have HZ := Lib.hid (And.intro hF hgf); clear hF hgf hbx ho3 hg3 hr3
    go_wp2_with fail
    go_ret
    exact ⟨rfl, HZ.out.1, HZ.out.2⟩
end Go.Proofs.Ytpnkgldpmalklaa
