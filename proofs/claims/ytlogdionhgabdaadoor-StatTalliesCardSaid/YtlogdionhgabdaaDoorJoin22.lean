/- Several texts, joined for the limit of sixty files; each one opens with its own comment. -/
import Derived.Test.YtlogdionhgabdaaDoorJoin21
import Derived.Test.YtlogdionhgabdaaDoorJoin20
/- slices.Delete of one element out of a row of sorted.entry[int,int] that the call owns. -/
set_option linter.unusedVariables false
set_option linter.unusedSimpArgs false
namespace Go.Proofs.YtlogdionhgabdaaDoor
open Go Go.RowKit
open Sw
/-- behind the call: a row with one element less -/
def DelPostII (base n : Nat) (xs : List Value) (row : Option Nat) (w : World) (e : Ending) (w' : World) : Prop :=
  ∃ v, e = .returned v ∧ w'.ownsRow base 56 2 v n xs ∧ w.grownBy w' row ∧ v.ownBlock = row
end Go.Proofs.YtlogdionhgabdaaDoor
/- sorted.Map[int,int]: New, find, Len, Clone, Drop, Put. -/
set_option linter.unusedVariables false
set_option linter.unusedSimpArgs false
namespace Go.Proofs.YtlogdionhgabdaaDoor
open Go Go.RowKit
open Sw
section
variable {w w' : World} {bm : Nat} {xs : List (Int × Int)}
theorem SMapII.lt (h : SMapII w bm xs) : bm < w.heap.size := by obtain ⟨v, hb, _⟩ := h.row; exact hb.lt
theorem SMapII.ord (h : SMapII w bm xs) : w.cell? ⟨bm, 0, none⟩ = some ordFII := by obtain ⟨v, hb, _⟩ := h.row; exact hb.cell 0
theorem own_grown_typ {w w' : World} {base : Nat} {e : TypeId} {size n : Nat} {v : Value} {l : List Value} (h : w.ownsRow base e size v n l) {g : Nat} {t : TypeId} {cs : Array Value} (hg : w.grownBy w' (some g)) (hB : Blk w g t cs) (hne : e ≠ t) : w'.ownsRow base e size v n l :=
  h.kept hg (by
    rcases h.2 with ⟨rfl, _⟩ | ⟨g', cap, cur, rfl, _, hg', _⟩
    · exact .inl rfl
    · right
      intro he
      have : g' = g := by simpa [Value.ownBlock] using he
      subst this
      exact Blk.other (hg' : Blk w g' e cur) hB hne rfl)
theorem SMapII.grown (h : SMapII w bm xs) {g : Nat} {t : TypeId} {cs : Array Value} (hg : w.grownBy w' (some g)) (hne : bm ≠ g) (hB : Blk w g t cs) (ht : 56 ≠ t) : SMapII w' bm xs := by
  obtain ⟨v, hb, ho⟩ := h.row
  exact ⟨⟨v, hb.grown hg (by simpa using hne), own_grown_typ ho hg hB ht⟩, h.up, h.ok⟩
theorem SMapII.below (h : SMapII w bm xs) (hb : Below w.heap.size w w') : SMapII w' bm xs := by
  obtain ⟨v, hB, ho⟩ := h.row
  exact ⟨⟨v, hB.below hb hB.lt, own_kept ho hb⟩, h.up, h.ok⟩
theorem SMapII.drewN (h : SMapII w bm xs) (n : Nat) : SMapII (w.drewN n) bm xs := h.below (below_drewN (Below.refl _ _) n)
theorem SMapII.drew (h : SMapII w bm xs) : SMapII w.drew bm xs := h.below (Below.refl _ _).drew
theorem flat1II (xs : List (Int × Int)) : ∀ u ∈ xs.flatMap eCII, u.oneCell' = true := fun u hu => by
  rw [List.mem_flatMap] at hu
  obtain ⟨x, _, hx⟩ := hu
  exact eCII_one x u hx
end
set_option maxRecDepth 100000 in
theorem srtNewII_any (w : World) :
    Calls Tryd.prog 16 #[ordFII] w fun e w' => ∃ bm, e = .returned (.pointer (some ⟨bm, 0, none⟩)) ∧ SMapII w' bm [] ∧ w.heap.size ≤ bm ∧ Below w.heap.size w w' := by
  have hB := Blk.new w 54 #[ordFII, .slice none 0 0]
  have hb1 := (Below.refl w.heap.size w).alloc (Nat.le_refl _) (.cells #[ordFII, .slice none 0 0] 54)
  have HF := Lib.hid (⟨⟨_, hB, World.ownsRow_nil _ 0 56 2⟩, List.Pairwise.nil, fun e he => by cases he⟩ : SMapII _ w.heap.size [])
  have HB := Lib.hid hb1; clear hb1 hB
  have hnf : ∀ W, (binOp .eql 27 ordFII Value.nilFunc).run Tryd.prog W = .ok (.bool false) W := fun W => by kernel_rfl
  go_enter Tryd.func16, Tryd.ntmps16
  go_wp2_with fail
  go_ret
  exact ⟨_, rfl, HF.out, Nat.le_refl _, HB.out⟩
/-- the answer of find -/
def FindPostII (k : Int) (xs : List (Int × Int)) (w : World) (e : Ending) (w' : World) : Prop :=
  e = .returned (.tuple #[.int .i64 (lbN ordI k xs), .bool (inN ordI k xs)]) ∧ Below w.heap.size w w'
set_option maxRecDepth 100000 in
set_option maxHeartbeats 2000000 in
theorem srtFindII_any (w : World) (bm : Nat) (xs : List (Int × Int)) (k : Int) (h : SMapII w bm xs) (hn : xs.length ≤ 1000000) (hk : okI k) :
    Calls Tryd.prog 24 #[.pointer (some ⟨bm, 0, none⟩), Value.int .i64 k] w (FindPostII k xs w) := by
  obtain ⟨v, hb, ho⟩ := h.row
  have hord := h.ord
  have hB := Blk.new w 40 #[.pointer (some ⟨bm, 0, none⟩)]
  have hb1 := (Below.refl w.heap.size w).alloc (Nat.le_refl _) (.cells #[.pointer (some ⟨bm, 0, none⟩)] 40)
  have hg1 : (w.alloc (.cells #[.pointer (some ⟨bm, 0, none⟩)] 40)).cell? ⟨w.heap.size, 0, none⟩ = some (.pointer (some ⟨bm, 0, none⟩)) := hB.cell 0
  have hbl := hb.lt
  have hm0 := (hb1.cell (p := ⟨bm, 0, none⟩) hbl).trans hord
  have hm1 : (w.alloc (.cells #[.pointer (some ⟨bm, 0, none⟩)] 40)).cell? ⟨bm, 1, none⟩ = some v := (hb1.cell (p := ⟨bm, 1, none⟩) hbl).trans (hb.cell 1)
  have hsz := hB.lt
  obtain ⟨A, c, rfl, hc1, hc2, hsl⟩ := SlV.of_own (own_kept ho hb1) eCII_len (by decide)
  have HS := Lib.hid (slSearchII_any eCII eCII_len (fun e => ordI e.1 k) (w.alloc (.cells #[.pointer (some ⟨bm, 0, none⟩)] 40)) A xs.length c w.heap.size xs (Value.int .i64 k) rfl hn hsl
    (fun a b ha hb' hab hlt => by
      rcases Nat.lt_or_ge a b with h1 | h1
      · exact ordI_ord.trans _ _ _ (List.pairwise_iff_getElem.1 h.up a b ha hb' h1) hlt
      · obtain rfl : a = b := by omega
        exact hlt)
    (fun W x hx hbW => find1II_any W w.heap.size bm x k (h.ok x hx) hk ((hbW.cell (p := ⟨w.heap.size, 0, none⟩) hsz).trans hg1) ((hbW.cell (p := ⟨bm, 0, none⟩) (Nat.lt_of_lt_of_le hbl hb1.size)).trans hm0)))
  have hv1 : w.cell? ⟨bm, 1, none⟩ = some (.slice A xs.length c) := hb.cell 1
  have HF := Lib.hid (fun e w' (hp : SrchPostII (fun e : Int × Int => ordI e.1 k) xs (w.alloc (.cells #[.pointer (some ⟨bm, 0, none⟩)] 40)) e w') => (by
    obtain ⟨i, hi, h1, h2, rfl, hbw⟩ := hp
    have hl := lbN_eq ordI_ord k xs i hi h1 h2
    subst hl
    refine ⟨?_, hb1.trans (hbw.mono hb1.size)⟩
    rw [inN_eq ordI_ord] : FindPostII k xs w e w'))
  clear hb1 hB hb ho hord h hsl hm0 hm1 hg1 hsz
  generalize xs.length = n at *
  go_enter Tryd.func24, Tryd.ntmps24
  go_wp2_with fail
  refine HS.out.mono ?_
  rintro e w2 hp
  obtain ⟨rfl, hb2⟩ := HF.out _ _ hp
  clear hp HF HS
  go_wp2_with fail
  go_ret2
  exact ⟨rfl, hb2⟩
set_option maxRecDepth 100000 in
theorem srtLenII_any (w : World) (bm : Nat) (xs : List (Int × Int)) (h : SMapII w bm xs) :
    Calls Tryd.prog 18 #[.pointer (some ⟨bm, 0, none⟩)] w fun e w' => e = .returned (.int .i64 xs.length) ∧ w = w' := by
  obtain ⟨v, hb, ho⟩ := h.row
  obtain ⟨A, c, rfl, hc1, hc2, hsl⟩ := SlV.of_own ho eCII_len (by decide)
  have hv1 : w.cell? ⟨bm, 1, none⟩ = some (.slice A xs.length c) := hb.cell 1
  clear hsl hb ho h
  generalize xs.length = n at *
  go_enter Tryd.func18, Tryd.ntmps18
  go_wp2_with fail
  go_ret
  exact ⟨rfl, rfl⟩
end Go.Proofs.YtlogdionhgabdaaDoor
