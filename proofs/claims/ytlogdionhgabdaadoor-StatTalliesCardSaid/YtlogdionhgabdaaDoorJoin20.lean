/- Several texts, joined for the limit of sixty files; each one opens with its own comment. -/
import Derived.Test.YtlogdionhgabdaaDoorJoin19
import Derived.Test.YtlogdionhgabdaaDoorJoin17
import Derived.Test.YtlogdionhgabdaaDoorJoin18
/- sorted.Map[int,int]: what a map holds; find. -/
set_option linter.unusedVariables false
set_option linter.unusedSimpArgs false
namespace Go.Proofs.YtlogdionhgabdaaDoor
open Go Go.RowKit
open Sw
/-- an entry's cells -/
def eCII (e : Int × Int) : List Value := [.int .i64 e.1, .int .i64 e.2]
theorem eCII_len (e : Int × Int) : (eCII e).length = 2 := rfl
theorem eCII_one (e : Int × Int) : ∀ u ∈ eCII e, u.oneCell' = true := by
  intro u hu
  simp only [eCII, List.mem_cons, List.mem_append, List.not_mem_nil, or_false] at hu
  rcases hu with rfl | rfl <;> rfl
abbrev ordFII : Value := .func (.func 6) #[] #[]
/-- the map in block bm holds the entries xs -/
structure SMapII (w : World) (bm : Nat) (xs : List (Int × Int)) : Prop where
  row : ∃ v, Blk w bm 54 #[ordFII, v] ∧ w.ownsRow 0 56 2 v xs.length (xs.flatMap eCII)
  up : Up ordI xs
  ok : ∀ e ∈ xs, okI e.1
set_option maxRecDepth 100000 in
set_option maxHeartbeats 2000000 in
theorem find1II_any (w : World) (g bm : Nat) (e : Int × Int) (k : Int) (he : okI e.1) (hk : okI k) (hg : w.cell? ⟨g, 0, none⟩ = some (.pointer (some ⟨bm, 0, none⟩))) (hm : w.cell? ⟨bm, 0, none⟩ = some ordFII) :
    Calls Tryd.prog 36 #[.agg (eCII e).toArray, Value.int .i64 k, .pointer (some ⟨g, 0, none⟩)] w fun r w' => r = .returned (.int .i64 (ordI e.1 k)) ∧ Below w.heap.size w w' := by
  have HO := Lib.hid (fun W => orderI_any W e.1 k he hk)
  have hB := Blk.new w 56 (eCII e).toArray
  have hb1 := (Below.refl w.heap.size w).alloc (Nat.le_refl _) (.cells (eCII e).toArray 56)
  have hgl := World.block_lt_of_cell? w _ hg
  have hml := World.block_lt_of_cell? w _ hm
  have hg1 := (hb1.cell (p := ⟨g, 0, none⟩) hgl).trans hg
  have hm1 := (hb1.cell (p := ⟨bm, 0, none⟩) hml).trans hm
  have hlt := hB.lt
  have hk0 : (w.alloc (.cells (eCII e).toArray 56)).cell? ⟨w.heap.size, 0, none⟩ = some (Value.int .i64 e.1) := hB.cell 0
  clear hg hm hB
  generalize ordI e.1 k = r at *
  have l1 : ∀ m : Held (Aft (w.alloc (.cells (eCII e).toArray 56))), (HeldW m).cell? ⟨g, 0, none⟩ = some (.pointer (some ⟨bm, 0, none⟩)) := fun m => (Aft.cell m (p := ⟨g, 0, none⟩) (Nat.lt_of_lt_of_le hgl hb1.size)).trans hg1
  have l2 : ∀ m : Held (Aft (w.alloc (.cells (eCII e).toArray 56))), (HeldW m).cell? ⟨bm, 0, none⟩ = some ordFII := fun m => (Aft.cell m (p := ⟨bm, 0, none⟩) (Nat.lt_of_lt_of_le hml hb1.size)).trans hm1
  have l3 : ∀ m : Held (Aft (w.alloc (.cells (eCII e).toArray 56))), (HeldW m).cell? ⟨w.heap.size, 0, none⟩ = some (Value.int .i64 e.1) := fun m => (Aft.cell m (p := ⟨w.heap.size, 0, none⟩) hlt).trans hk0
  have HB1 := Lib.hid hb1; clear hb1 hg1 hm1 hk0
  haveI := Aft.some (w.alloc (.cells (eCII e).toArray 56))
  generalize (eCII e).toArray = ec at *
  go_enter Tryd.func36, Tryd.ntmps36
  go_wp2_with fail
  refine wp_region_class (Aft (w.alloc (.cells ec 56))) (by kernel_rfl) (by kernel_rfl) (Aft.start _) ?_
  repeat (go_big_quiet_step (with_reducible exact held_below Aft.keep (HO.out _)))
  refine wpQuiet_nil ?_
  rintro _ ⟨nn, rfl⟩
  have HW : Hid (Below (w.alloc (.cells ec 56)).heap.size (w.alloc (.cells ec 56)) (HeldW nn)) := Lib.hid (HeldW_spec nn)
  go_wp2_with fail
  go_ret
  exact ⟨rfl, HB1.out.trans (HW.out.mono HB1.out.size)⟩
end Go.Proofs.YtlogdionhgabdaaDoor
