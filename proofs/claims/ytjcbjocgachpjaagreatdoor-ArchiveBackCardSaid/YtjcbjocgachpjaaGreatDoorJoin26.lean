/- Several texts, joined for the limit of sixty files; each one opens with its own comment. -/
import Derived.Test.YtjcbjocgachpjaaGreatDoorJoin1
import Derived.Test.YtjcbjocgachpjaaGreatDoorRows
import Derived.Lib.FrozenHead
import Derived.Lib.OthersKept
import Derived.RegionTactic
import Derived.ChangeAlike
import Derived.Test.YtjcbjocgachpjaaGreatDoorJoin25
import Derived.Test.YtjcbjocgachpjaaGreatDoorJoin5
import Derived.Test.YtjcbjocgachpjaaGreatDoorJoin6
import Derived.Test.YtjcbjocgachpjaaGreatDoorJoin4
import Derived.Test.YtjcbjocgachpjaaGreatDoorJoin23
/- A strings.Builder in a block of its own: copyCheck, WriteString, String, Len. -/
set_option linter.unusedVariables false
set_option linter.unusedSimpArgs false
namespace Go.Proofs.YtjcbjocgachpjaaGreatDoor
open Go.RowKit
open Sw
abbrev BldAt := Lib.BuilderAtF 65 5
abbrev Bld := Lib.IsBuilderF 65 5
theorem bld_size : (Tryz.prog.info? 65).map (·.size) = some 2 := by kernel_rfl
theorem bld_lies : liesAt Tryz.prog Tryz.prog.depth 65 (2 / Tryz.prog.cellsOf 65) 0 65 1 = true := by kernel_rfl
theorem bld_info_u8 : (Tryz.prog.info? 5).map (fun i => (i.zero, i.size, i.bytes)) = some (some (.int .u8 0), 1, 1) := by kernel_rfl
theorem bld_ne : (65 : TypeId) ≠ 5 := by decide
set_option maxRecDepth 100000 in
theorem copyCheck_used (b : Nat) (w : World) (h0 : w.cell? ⟨b, 0, none⟩ = some (.pointer (some ⟨b, 0, none⟩))) :
    Calls Tryz.prog 49 #[.pointer (some ⟨b, 0, none⟩)] w fun e w' => e = .returned (.tuple #[]) ∧ w' = w := by
  obtain ⟨j, hj, _⟩ := Option.map_eq_some_iff.1 bld_size
  go_enter Tryz.func49, Tryz.ntmps49
  go_wp2
  rw [Lib.run_neq_ptr_same w _ Tryz.underlying62 hj]
  go_wp2
  go_end0
  exact ⟨rfl, rfl⟩
set_option maxRecDepth 100000 in
set_option maxHeartbeats 1000000 in
theorem copyCheck_fresh (b : Nat) (w : World) (h0 : w.cell? ⟨b, 0, none⟩ = some (.pointer none)) (hsh : w.shape? b = some (65, 2)) (hfz : w.frozen? ⟨b, 0, none⟩ = false) :
    Calls Tryz.prog 49 #[.pointer (some ⟨b, 0, none⟩)] w fun e w' => e = .returned (.tuple #[]) ∧ w' = w.setCell ⟨b, 0, none⟩ (.pointer (some ⟨b, 0, none⟩)) := by
  obtain ⟨j, hj, hjs⟩ := Option.map_eq_some_iff.1 bld_size
  go_enter Tryz.func49, Tryz.ntmps49
  go_wp2
  rw [Lib.run_to_unsafe w ⟨b, 0, none⟩ Tryz.underlying62 Tryz.underlying142 hj (by rw [hjs]; decide) hsh (Nat.zero_lt_succ 1)]
  simp only [Result.andThen]
  rw [Oper.upon_value]
  go_wp2
  rw [run_callFunc_extern Tryz.func87 (by kernel_rfl) (by kernel_rfl) (by kernel_rfl) (e := Extern.AbiNoEscape.same) (by kernel_rfl)]
  rw [Lib.run_noEscape]
  simp only [Result.andThen]
  rw [Oper.upon_value]
  go_wp2
  rw [Lib.run_from_unsafe w ⟨b, 0, none⟩ Tryz.underlying142 Tryz.underlying62 hj hsh bld_lies]
  simp only [Result.andThen]
  rw [Oper.upon_value]
  go_wp2
  go_end0
  exact ⟨rfl, rfl⟩
theorem copyCheck_any (B b : Nat) (bs : List Value) (w : World) (h : Bld B b bs w) :
    Calls Tryz.prog 49 #[.pointer (some ⟨b, 0, none⟩)] w fun e w' => e = .returned (.tuple #[]) ∧ (BldAt B b (.pointer (some ⟨b, 0, none⟩)) bs w' ∧ Below B w w' ∧ Lib.OthersKept 5 (some b) w w') := by
  rcases h with h | h
  · refine (copyCheck_fresh b w h.cell0 h.shape h.frozen0).mono ?_
    rintro e w' ⟨rfl, rfl⟩
    exact ⟨rfl, h.used _, (Below.refl B w).setCell (p := ⟨b, 0, none⟩) h.1 _, (Lib.OthersKept.refl _ _ w).setCell ⟨b, 0, none⟩ rfl _⟩
  · refine (copyCheck_used b w h.cell0).mono ?_
    rintro e w' ⟨rfl, rfl⟩
    exact ⟨rfl, h, Below.refl B _, Lib.OthersKept.refl _ _ _⟩
set_option maxRecDepth 100000 in
set_option maxHeartbeats 1000000 in
theorem writeString_any (B b : Nat) (bs : List Value) (s : ByteArray) (w : World) (h : Bld B b bs w) (hlen : bs.length + s.size ≤ 140737488355328) (hBw : B ≤ w.heap.size) :
    Calls Tryz.prog 22 #[.pointer (some ⟨b, 0, none⟩), .string s] w fun e w' => e = .returned (.tuple #[.int .i64 s.size, .nilIface]) ∧ (BldAt B b (.pointer (some ⟨b, 0, none⟩)) (bs ++ Lib.strCells s) w' ∧ Below B w w' ∧ Lib.OthersKept 5 (some b) w w') := by
  obtain ⟨i0, hi, hz0, hz1, hz2⟩ := info_parts bld_info_u8
  go_enter Tryz.func22, Tryz.ntmps22
  go_wp2_with (go_at_call 49; refine (copyCheck_any B b bs _ h).mono ?_)
  rintro e w1 ⟨rfl, h1, hb1, hk1⟩
  obtain ⟨hB, v, hbk, hown, hne⟩ := h1
  have c0 : w1.cell? ⟨b, 0, none⟩ = some (.pointer (some ⟨b, 0, none⟩)) := by rw [Lib.cell_of_heap hbk]; rfl
  have c1 : w1.cell? ⟨b, 1, none⟩ = some v := by rw [Lib.cell_of_heap hbk]; rfl
  go_wp2_with (at_builtin; refine Lib.wpList_append_own_stringF _ rfl _ _ 63 9 rfl B 5 i0 Tryz.underlying63 Tryz.underlying9 hi hz0 hz1 hz2 _ _ _ rfl hown s rfl ?c3 ?c4 ?c5 ?_)
  case c3 => unfold maxLen; omega
  case c4 => omega
  case c5 => have := hb1.size; omega
  intro v' w2 hown' hgrow _
  have hlt : b < w1.heap.size := by
    rcases Nat.lt_or_ge b w1.heap.size with h' | h'
    · exact h'
    · simp [Array.getElem?_eq_none h'] at hbk
  have hb2 : w2.heap[b]? = some (.cells #[.pointer (some ⟨b, 0, none⟩), v] 65 (0, 0)) := by
    rw [hgrow.block b hlt (fun e => hne e.symm)]
    exact hbk
  have d0 : w2.cell? ⟨b, 0, none⟩ = some (.pointer (some ⟨b, 0, none⟩)) := by rw [Lib.cell_of_heap hb2]; rfl
  have d1 : w2.cell? ⟨b, 1, none⟩ = some v := by rw [Lib.cell_of_heap hb2]; rfl
  have f1 : w2.frozen? ⟨b, 1, none⟩ = false := Lib.frozen_of_heap hb2 1
  obtain ⟨ao, n', cap, rfl⟩ : ∃ ao n' cap, v' = .slice ao n' cap := by
    rcases hown'.2 with ⟨hv, _⟩ | ⟨g, cap, cur, fz, hv, _⟩
    · exact ⟨_, _, _, hv⟩
    · exact ⟨_, _, _, hv⟩
  go_wp2
  go_ret2
  refine ⟨rfl, ?_, ?_, (hk1.grown hgrow (Lib.ownsRowF_kind hown)).setCell ⟨b, 1, none⟩ rfl _⟩
  · exact Lib.BuilderAtF.put (T := 65) (e := 5) hB hb2 (bs' := bs ++ Lib.strCells s) (by simpa [Lib.strCells_length] using hown') bld_ne
  · exact (hb1.grown hgrow (by have := hb1.size; omega) (fun k hk => (hown.lt k hk).1)).setCell (p := ⟨b, 1, none⟩) hB _
set_option maxRecDepth 100000 in
set_option maxHeartbeats 1000000 in
theorem bldString_k (B b : Nat) (l : List UInt8) (w : World) (h : Bld B b (Lib.byteCells l) w) (h0 : l ≠ []) :
    Calls Tryz.prog 26 #[.pointer (some ⟨b, 0, none⟩)] w fun e w' => e = .returned (.string ⟨l.toArray⟩) ∧ (Bld B b (Lib.byteCells l) w' ∧ Below B w w' ∧ Lib.OthersKept 5 (some b) w w') := by
  obtain ⟨p, hp, hAt⟩ : ∃ p, (p = .pointer none ∨ p = .pointer (some ⟨b, 0, none⟩)) ∧ BldAt B b p (Lib.byteCells l) w := by
    rcases h with h | h
    · exact ⟨_, .inl rfl, h⟩
    · exact ⟨_, .inr rfl, h⟩
  obtain ⟨hB, v, hbk, hown, hne⟩ := hAt
  have hl0 : l.length ≠ 0 := by simpa using h0
  rw [Lib.byteCells_length] at hown
  obtain ⟨g, cap, cur, fz, rfl, hbg, hg, hfz, hnc, hcm, hcs, htake⟩ : ∃ g cap cur fz, v = .slice (some ⟨g, 0, none⟩) l.length cap ∧ B ≤ g ∧ w.heap[g]? = some (.cells cur 5 fz) ∧ fz.2 ≤ l.length * 1 ∧ l.length ≤ cap ∧ cap ≤ maxLen ∧ cur.size = cap * 1 ∧ cur.toList.take (l.length * 1) = Lib.byteCells l := by
    rcases hown.2 with ⟨_, hz⟩ | ⟨g, cap, cur, fz, hv, r⟩
    · exact absurd hz hl0
    · exact ⟨g, cap, cur, fz, hv, r⟩
  have c1 : w.drew.cell? ⟨b, 1, none⟩ = some (.slice (some ⟨g, 0, none⟩) l.length cap) := by
    have : w.drew.heap[b]? = some (.cells #[p, .slice (some ⟨g, 0, none⟩) l.length cap] 65 (0, 0)) := hbk
    rw [Lib.cell_of_heap this]; rfl
  have hSD : (Builtin.unsafeSliceData_ #[63] 111 #[.slice (some ⟨g, 0, none⟩) l.length cap]).run Tryz.prog w.drew = .ok (.pointer (some ⟨g, 0, none⟩)) w.drew :=
    Lib.run_unsafeSliceData_row _ _ _ _ _ _ (by omega)
  have hUS : (Builtin.unsafeString_ #[111, 3] 9 #[.pointer (some ⟨g, 0, none⟩), .int .i64 l.length]).run Tryz.prog w.drew = .ok (.string ⟨l.toArray⟩) (w.drew.freeze ⟨g, 0, none⟩ l.length) := by
    refine Lib.run_unsafeString_row w.drew 111 3 9 5 Tryz.underlying111 (by kernel_rfl) g cur.size (by have hg' : w.drew.heap[g]? = some (.cells cur 5 fz) := hg; simp [World.shape?, hg']) l h0 (by omega) (by unfold maxLen at hcm; omega) ?_
    intro j x hx
    have := hown.cells (g := g) rfl j (.int .u8 x.toNat) (by simp [Lib.byteCells, hx])
    exact this
  have hkeep : Bld B b (Lib.byteCells l) (w.drew.freeze ⟨g, 0, none⟩ l.length) := by
    have hA : BldAt B b p (Lib.byteCells l) w.drew := ⟨hB, _, hbk, by rw [Lib.byteCells_length]; exact hown, hne⟩
    have hF := hA.froze (g := g) (cap := cap) (by rw [Lib.byteCells_length]; exact c1)
    rw [Lib.byteCells_length] at hF
    rcases hp with rfl | rfl
    · exact .inl hF
    · exact .inr hF
  have HK := Lib.hid hkeep; clear hkeep
  have hfin : Below B w (w.drew.freeze ⟨g, 0, none⟩ l.length) ∧ Lib.OthersKept 5 (some b) w (w.drew.freeze ⟨g, 0, none⟩ l.length) :=
    ⟨Lib.below_freeze (Below.drew (Below.refl B w)) (p := ⟨g, 0, none⟩) hbg _, ((Lib.OthersKept.refl _ _ w).drew).freeze ⟨g, 0, none⟩ _ ⟨cur, fz, hg⟩⟩
  have HF := Lib.hid hfin; clear hfin htake hcs hg hfz hown hbk hne
  go_enter Tryz.func26, Tryz.ntmps26
  go_wp2
  go_region
  all_goals (go_wp2; go_ret; exact ⟨rfl, HK.out, HF.out⟩)
set_option maxRecDepth 100000 in
set_option maxHeartbeats 2000000 in
theorem bldString_nil (B b : Nat) (p : Value) (w : World) (hBw : B ≤ w.heap.size) (hA : BldAt B b p [] w) :
    Calls Tryz.prog 26 #[.pointer (some ⟨b, 0, none⟩)] w fun e w' => e = .returned (.string ⟨#[]⟩) ∧ (BldAt B b p [] w' ∧ Below B w w' ∧ Lib.OthersKept 5 (some b) w w') := by
  have hUS := fun (W : World) (q : Option Addr) => Lib.run_unsafeString_none (P := Tryz.prog) W 111 3 9 q
  have hA' := hA
  obtain ⟨hB, v, hbk, hown, hne⟩ := hA
  have hlt : b < w.heap.size := hA'.lt
  rcases hown.2 with ⟨rfl, _⟩ | ⟨g, cap, cur, fz, rfl, hbg, hg, _, _, _, _, _⟩
  · have c1 : w.drew.cell? ⟨b, 1, none⟩ = some (.slice none 0 0) := by
      have : w.drew.heap[b]? = some (.cells #[p, .slice none 0 0] 65 (0, 0)) := hbk
      rw [Lib.cell_of_heap this]; rfl
    have hSD : (Builtin.unsafeSliceData_ #[63] 111 #[.slice none 0 0]).run Tryz.prog w.drew = .ok (.pointer none) w.drew := rfl
    clear hbk hown hne
    go_enter Tryz.func26, Tryz.ntmps26
    go_wp2
    go_region
    all_goals (go_wp2; go_ret; exact ⟨rfl, hA'.drew, Below.drew (Below.refl B w), (Lib.OthersKept.refl _ _ w).drew⟩)
  · by_cases hc0 : cap = 0
    · subst hc0
      have c1 : w.drew.cell? ⟨b, 1, none⟩ = some (.slice (some ⟨g, 0, none⟩) 0 0) := by
        have : w.drew.heap[b]? = some (.cells #[p, .slice (some ⟨g, 0, none⟩) 0 0] 65 (0, 0)) := hbk
        rw [Lib.cell_of_heap this]; rfl
      have hSD : (Builtin.unsafeSliceData_ #[63] 111 #[.slice (some ⟨g, 0, none⟩) 0 0]).run Tryz.prog w.drew = .ok (.pointer (some ⟨w.drew.heap.size, 0, none⟩)) (w.drew.alloc (.view ⟨g, 0, none⟩ 5)) :=
        Lib.run_unsafeSliceData_zero w.drew _ _ 5 Tryz.underlying111 ⟨g, 0, none⟩ 0 (5, cur.size) (by have hg' : w.drew.heap[g]? = some (.cells cur 5 fz) := hg; simp [World.shape?, hg'])
      have c2 : (w.drew.alloc (.view ⟨g, 0, none⟩ 5)).cell? ⟨b, 1, none⟩ = some (.slice (some ⟨g, 0, none⟩) 0 0) := by
        have : (w.drew.alloc (.view ⟨g, 0, none⟩ 5)).heap[b]? = _ := (Lib.alloc_old w.drew _ b hlt).trans hbk
        rw [Lib.cell_of_heap this]; rfl
      have c3 : (w.alloc (.view ⟨g, 0, none⟩ 5)).drew.cell? ⟨b, 1, none⟩ = some (.slice (some ⟨g, 0, none⟩) 0 0) := c2
      have c0 : w.cell? ⟨b, 1, none⟩ = some (.slice (some ⟨g, 0, none⟩) 0 0) := c1
      clear hbk hown hne
      go_enter Tryz.func26, Tryz.ntmps26
      go_wp2
      go_region
      all_goals (go_wp2; go_ret; exact ⟨rfl, hA'.drew.alloc _, (Below.drew (Below.refl B w)).alloc hBw _, ((Lib.OthersKept.refl _ _ w).drew).alloc _⟩)
    · have c1 : w.drew.cell? ⟨b, 1, none⟩ = some (.slice (some ⟨g, 0, none⟩) 0 cap) := by
        have : w.drew.heap[b]? = some (.cells #[p, .slice (some ⟨g, 0, none⟩) 0 cap] 65 (0, 0)) := hbk
        rw [Lib.cell_of_heap this]; rfl
      have hSD : (Builtin.unsafeSliceData_ #[63] 111 #[.slice (some ⟨g, 0, none⟩) 0 cap]).run Tryz.prog w.drew = .ok (.pointer (some ⟨g, 0, none⟩)) w.drew :=
        Lib.run_unsafeSliceData_row _ _ _ _ _ _ hc0
      clear hc0 hbk hown hne
      go_enter Tryz.func26, Tryz.ntmps26
      go_wp2
      go_region
      all_goals (go_wp2; go_ret; exact ⟨rfl, hA'.drew, Below.drew (Below.refl B w), (Lib.OthersKept.refl _ _ w).drew⟩)
theorem bldString_any (B b : Nat) (l : List UInt8) (w : World) (h : Bld B b (Lib.byteCells l) w) (hBw : B ≤ w.heap.size) :
    Calls Tryz.prog 26 #[.pointer (some ⟨b, 0, none⟩)] w fun e w' => e = .returned (.string ⟨l.toArray⟩) ∧ (Bld B b (Lib.byteCells l) w' ∧ Below B w w' ∧ Lib.OthersKept 5 (some b) w w') := by
  cases l with
  | cons x r => exact bldString_k B b (x :: r) w h (by simp)
  | nil =>
    rcases h with h | h
    · exact (bldString_nil B b _ w hBw h).mono fun e w' ⟨he, hk, hb, ho⟩ => ⟨he, .inl hk, hb, ho⟩
    · exact (bldString_nil B b _ w hBw h).mono fun e w' ⟨he, hk, hb, ho⟩ => ⟨he, .inr hk, hb, ho⟩
theorem Bld.below {B B' b : Nat} {bs : List Value} {w w' : World} (h : Bld B b bs w) (hb : Below w.heap.size w w') : Bld B b bs w' := by
  have hh : ∀ p, BldAt B b p bs w → BldAt B b p bs w' := by
    rintro p ⟨hB, v, hbk, hown, hne⟩
    refine ⟨hB, v, ?_, hown.kept (row := none) ?_ ?_, hne⟩
    · rw [hb.block b (Array.getElem?_eq_some_iff.1 hbk).1]; exact hbk
    · exact grown_below hb
    · rcases v.ownBlock.eq_none_or_eq_some with h | ⟨g, h⟩
      · exact .inl h
      · right; rw [h]; simp
  rcases h with h | h
  · exact .inl (hh _ h)
  · exact .inr (hh _ h)
theorem Bld.lt {B b : Nat} {bs : List Value} {w : World} (h : Bld B b bs w) : b < w.heap.size := by
  rcases h with h | h
  · exact Lib.BuilderAtF.lt h
  · exact Lib.BuilderAtF.lt h
theorem bld_fresh (w : World) : Bld w.heap.size w.heap.size (Lib.byteCells []) (w.alloc (.cells #[.pointer none, .slice none 0 0] 65)) :=
  Lib.IsBuilderF.of (Lib.fresh_isBuilder _ _ _)
theorem Bld.alloc {B b : Nat} {bs : List Value} {w : World} (h : Bld B b bs w) (o : Obj) : Bld B b bs (w.alloc o) := Lib.IsBuilderF.alloc h o
set_option maxRecDepth 100000 in
set_option maxHeartbeats 1000000 in
theorem bldLen_any (B b : Nat) (l : List UInt8) (w : World) (h : Bld B b (Lib.byteCells l) w) (hl : l.length ≤ 100000000) :
    Calls Tryz.prog 25 #[.pointer (some ⟨b, 0, none⟩)] w fun e w' => e = .returned (.int .i64 l.length) ∧ w' = w := by
  obtain ⟨p, hAt⟩ : ∃ p, BldAt B b p (Lib.byteCells l) w := by
    rcases h with h | h
    · exact ⟨_, h⟩
    · exact ⟨_, h⟩
  obtain ⟨hB, v, hbk, hown, hne⟩ := hAt
  rw [Lib.byteCells_length] at hown
  have c1 : w.cell? ⟨b, 1, none⟩ = some v := by rw [Lib.cell_of_heap hbk]; rfl
  obtain ⟨ao, cap, rfl⟩ : ∃ ao cap, v = .slice ao l.length cap := by
    rcases hown.2 with ⟨hv, hz⟩ | ⟨g, cap, cur, fz, hv, _⟩
    · exact ⟨none, 0, by rw [hv, hz]⟩
    · exact ⟨_, _, hv⟩
  clear hown hbk hne
  go_enter Tryz.func25, Tryz.ntmps25
  go_wp2
  go_ret
  exact ⟨rfl, rfl⟩
end Go.Proofs.YtjcbjocgachpjaaGreatDoor
/- node.Text and node.Parse of a mark's print; the closure of archive.Write that writes a line. -/
set_option linter.unusedVariables false
set_option linter.unusedSimpArgs false
namespace Sw
open Go
/-- marks whose text is read back -/
def OkT (m : MkE) : Prop := OkM m ∧ (0 ≤ m.2.time ∧ m.2.time < 4294967296) ∧ (0 ≤ m.2.sum ∧ m.2.sum < 4294967296)
theorem join_flat : ∀ l : List (List UInt8), Lib.join l [] = l.flatten
  | [] => rfl
  | [x] => by unfold Lib.join; simp [List.intercalate, List.intersperse]
  | x :: y :: l => by
    have ih := join_flat (y :: l)
    rw [List.flatten_cons, ← ih]
    unfold Lib.join
    simp [List.intercalate, List.intersperse]
end Sw
namespace Go.Proofs.YtjcbjocgachpjaaGreatDoor
open Go Go.RowKit
open Sw
/-- a print that may be, written out -/
theorem print_cases {m : MkE} (h : OkT m) : (∃ md : Nat, md < 512 ∧ m.2 = ⟨2, md, 0, 0, 0⟩) ∨ ∃ (md z u : Nat) (t : Int), md < 512 ∧ (splitD t).Ok ∧ 0 ≤ t ∧ t < 4294967296 ∧ z ≤ 65000 ∧ u < 4294967296 ∧ (z = 0 → u = 0) ∧ m.2 = ⟨1, md, t, z, u⟩ := by
  obtain ⟨⟨hr, hf, hk⟩, ⟨ht0, ht1⟩, hu0, hu1⟩ := h
  obtain ⟨p, k, md, t, z, u⟩ := m
  simp only at hr hf hk ht0 ht1 hu0 hu1 ⊢
  by_cases h2 : k = 2
  · obtain ⟨a, b, c, d⟩ := print_dir hf h2
    simp only at a b c d
    obtain ⟨n, rfl⟩ := Int.eq_ofNat_of_zero_le a.1
    subst h2 b c d
    exact .inl ⟨n, by omega, rfl⟩
  · obtain ⟨e, a, b, c, d⟩ := print_file hf hk h2
    simp only at a b c d e
    obtain ⟨n, rfl⟩ := Int.eq_ofNat_of_zero_le a.1
    obtain ⟨z', rfl⟩ := Int.eq_ofNat_of_zero_le c
    obtain ⟨u', rfl⟩ := Int.eq_ofNat_of_zero_le hu0
    subst e
    refine .inr ⟨n, z', u', t, by omega, b, ht0, ht1, by omega, by omega, fun hz => ?_, rfl⟩
    subst hz
    unfold fineP at hf
    rw [if_neg (show ¬ (1 : Int) = 0 by decide), if_neg (show ¬ (1 : Int) = 2 by decide), if_pos rfl] at hf
    simp at hf
    omega
theorem markText_any (w : World) (m : MkE) (h : OkT m) :
    Calls Tryz.prog 24 #[.agg m.2.c] w fun e w' => e = .returned (.string (mkB (textPL m.2))) ∧ Below w.heap.size w w' := by
  rcases print_cases h with ⟨md, hm, e⟩ | ⟨md, z, u, t, hm, hok, ht0, ht1, hz, hu, hzu, e⟩
  · rw [e]; exact nodeText_dir w md hm
  · rw [e]; exact nodeText_file w md z u t hm hok ht0 ht1 hz hu hzu
theorem markParse_any (w : World) (m : MkE) (h : OkT m) :
    Calls Tryz.prog 61 #[.string (mkB (textPL m.2))] w fun e w' => e = .returned (.tuple #[.agg m.2.c, .bool true]) ∧ Below w.heap.size w w' := by
  rcases print_cases h with ⟨md, hm, e⟩ | ⟨md, z, u, t, hm, hok, ht0, ht1, hz, hu, hzu, e⟩
  · rw [e]; exact nodeParse_dir w md hm
  · rw [e]; exact nodeParse_file w md z u t hm hok ht0 ht1 hz hu hzu
/-- what a line's parts come to -/
def catT (ts : List ByteArray) : List UInt8 := (ts.map (·.data.toList)).flatten
set_option maxRecDepth 100000 in
set_option maxHeartbeats 2000000 in
theorem archLine_any (B b g n : Nat) (bs : List UInt8) (ts : List ByteArray) (w : World) (h : Bld B b (Lib.byteCells bs) w) (hBw : B ≤ w.heap.size) (hn : ts.length = n) (hg : Blk w g 9 (ts.map Value.string).toArray) (h100 : n ≤ 100) (hl1 : bs.length ≤ 1000000) (hl2 : (catT ts).length ≤ 100000) :
    Calls Tryz.prog 21 #[.slice (some ⟨g, 0, none⟩) n n, .pointer (some ⟨b, 0, none⟩)] w fun e w' => e = .returned (.tuple #[]) ∧ (Bld B b (Lib.byteCells (bs ++ (catT ts ++ [10]))) w' ∧ Below B w w') := by
  have hj := join_blk w g n ts ⟨#[]⟩ hn hg h100 (by
    rw [show (⟨#[]⟩ : ByteArray).data.toList = [] from rfl, join_flat]
    exact Nat.le_trans hl2 (by omega))
  rw [show (⟨#[]⟩ : ByteArray).data.toList = [] from rfl, join_flat] at hj
  have hsz : (mkB (catT ts)).size = (catT ts).length := mkB_size _
  have hcat : mkB (catT ts) ++ ⟨#[10]⟩ = mkB (catT ts ++ [10]) := by
    unfold mkB
    apply ByteArray.ext
    simp
  have hsz2 : (mkB (catT ts ++ [10])).size = (catT ts).length + 1 := by rw [mkB_size, List.length_append]; rfl
  have HW := Lib.hid (fun V (hb : Below w.heap.size w V) => writeString_any B b (Lib.byteCells bs) (mkB (catT ts ++ [10])) V (Bld.below (B' := 0) h hb) (by rw [Lib.byteCells_length, hsz2]; omega) (Nat.le_trans hBw hb.size))
  have HJ := Lib.hid (show Calls Tryz.prog 23 #[.slice (some ⟨g, 0, none⟩) n n, .string ⟨#[]⟩] w fun e w' => e = .returned (.string (mkB (catT ts))) ∧ Below w.heap.size w w' from hj)
  have HE := Lib.hid (show Lib.byteCells bs ++ Lib.strCells (mkB (catT ts ++ [10])) = Lib.byteCells (bs ++ (catT ts ++ [10])) by rw [Lib.byteCells_append]; rfl)
  rw [← hcat] at HW HE
  clear hj hcat hsz2 h hg
  generalize catT ts = T at *
  generalize mkB T = S at *
  have hS : S.size ≤ 100000 := by omega
  go_enter Tryz.func21, Tryz.ntmps21
  go_wp2_with fail
  refine HJ.out.mono ?_
  rintro e w1 ⟨rfl, hb1⟩
  have HB1 := Lib.hid hb1; clear hb1
  go_wp2_with fail
  refine (HW.out w1 HB1.out).mono ?_
  rintro e w2 ⟨rfl, h2, hb2, -⟩
  rw [HE.out] at h2
  have H2 := Lib.hid (And.intro h2 ((HB1.out.mono hBw).trans hb2)); clear h2 hb2
  go_wp2_with fail
  go_end0
  exact ⟨rfl, .inr H2.out.1, H2.out.2⟩
end Go.Proofs.YtjcbjocgachpjaaGreatDoor
/- The line of a change, and strings.Cut at one byte. -/
set_option linter.unusedVariables false
set_option linter.unusedSimpArgs false
namespace Sw
open Go
/-- a text cut at its first byte c -/
def cutBy (c : UInt8) (s : ByteArray) : ByteArray × ByteArray × Bool :=
  if Lib.indexByte s.data.toList c < 0 then (s, ⟨#[]⟩, false) else (s.extract 0 (Lib.indexByte s.data.toList c).toNat, s.extract ((Lib.indexByte s.data.toList c).toNat + 1) s.size, true)
theorem ba_ext {a b : ByteArray} (h : a.data.toList = b.data.toList) : a = b := ByteArray.ext (Array.ext' h)
theorem cutBy_hit {c : UInt8} {a b : ByteArray} (h : c ∉ a.data.toList) : cutBy c (a ++ ⟨#[c]⟩ ++ b) = (a, b, true) := by
  have hl : (a ++ ⟨#[c]⟩ ++ b).data.toList = a.data.toList ++ c :: b.data.toList := by simp
  have hi : Lib.indexByte (a ++ ⟨#[c]⟩ ++ b).data.toList c = (a.size : Nat) := by
    have hget : (a.data.toList ++ c :: b.data.toList)[a.size]? = some c := by
      rw [List.getElem?_append_right (by rw [Lib.size_eq]; exact Nat.le_refl _), Lib.size_eq, Nat.sub_self]
      rfl
    rw [hl]
    have hge := Lib.indexByte_ge (a.data.toList ++ c :: b.data.toList) c
    by_cases hn : Lib.indexByte (a.data.toList ++ c :: b.data.toList) c = -1
    · exact absurd hget (Lib.indexByte_none hn _)
    · obtain ⟨o, ho⟩ := Int.eq_ofNat_of_zero_le (show 0 ≤ Lib.indexByte (a.data.toList ++ c :: b.data.toList) c by omega)
      have hs := Lib.indexByte_some ho
      rw [ho]
      have h1 : ¬ a.size < o := fun hlt => hs.2 a.size hlt hget
      have h2 : ¬ o < a.size := fun hlt => by
        have h3 := hs.1
        rw [List.getElem?_append_left (by rw [← Lib.size_eq]; exact hlt)] at h3
        exact h (List.mem_of_getElem? h3)
      have : o = a.size := by omega
      rw [this]
  unfold cutBy
  rw [hi, if_neg (by omega)]
  have e1 : (a ++ ⟨#[c]⟩ ++ b).extract 0 ((a.size : Nat) : Int).toNat = a := ba_ext (by
    rw [Lib.extract_eq, hl, Int.toNat_natCast, Lib.size_eq]; simp)
  have e2 : (a ++ ⟨#[c]⟩ ++ b).extract (((a.size : Nat) : Int).toNat + 1) (a ++ ⟨#[c]⟩ ++ b).size = b := ba_ext (by
    rw [Lib.extract_eq, Lib.size_eq (a ++ ⟨#[c]⟩ ++ b), hl, Int.toNat_natCast, Lib.size_eq]
    have e3 : (a.data.toList ++ c :: b.data.toList).drop (a.data.toList.length + 1) = b.data.toList := by
      rw [show a.data.toList ++ c :: b.data.toList = (a.data.toList ++ [c]) ++ b.data.toList by simp, show a.data.toList.length + 1 = (a.data.toList ++ [c]).length by simp, List.drop_left]
    rw [e3, List.take_of_length_le (by simp; omega)])
  rw [e1, e2]
end Sw
namespace Go.Proofs.YtjcbjocgachpjaaGreatDoor
open Go Go.RowKit Go.Shelf
open Sw
attribute [local go_sem] Oper.semAt_some
set_option maxRecDepth 100000 in
set_option maxHeartbeats 1000000 in
theorem cutLiteBy_any (w : World) (c : UInt8) (s : ByteArray) (hs : s.size ≤ 1000000) :
    Calls Tryz.prog 96 #[.string s, .string ⟨#[c]⟩] w fun e w' => e = .returned (.tuple #[.string (cutBy c s).1, .string (cutBy c s).2.1, .bool (cutBy c s).2.2]) ∧ ∃ m, w' = w.drewN m := by
  have hix := Tryz.stringslite_Index_one s c w
  have hge := Lib.indexByte_ge s.data.toList c
  unfold cutBy
  obtain ⟨j, hj⟩ : ∃ j, Lib.indexByte s.data.toList c = j := ⟨_, rfl⟩
  rw [hj] at hix hge ⊢
  have HIX := Lib.hid hix; clear hix
  by_cases h0 : j < 0
  · obtain rfl : j = -1 := by omega
    rw [if_pos h0]
    clear hj hge
    go_enter Tryz.func96, Tryz.ntmps96
    go_wp2_with fail
    refine HIX.out.mono ?_
    rintro e w1 ⟨rfl, rfl⟩
    go_wp2_with fail
    go_ret3
    exact ⟨rfl, 0, rfl⟩
  · obtain ⟨i, rfl⟩ := Int.eq_ofNat_of_zero_le (show 0 ≤ j by omega)
    rw [if_neg h0]
    have hiX : i < s.size := by
      have := (List.getElem?_eq_some_iff.1 (Lib.indexByte_some hj).1).1
      rw [Lib.size_eq]; exact this
    clear hj hge
    have hi1 : (i : Int) + 1 ≤ s.size := by omega
    go_enter Tryz.func96, Tryz.ntmps96
    go_wp2_with fail
    refine HIX.out.mono ?_
    rintro e w1 ⟨rfl, rfl⟩
    go_wp2_with fail
    go_region
    go_wp2_with fail
    go_ret3
    exact ⟨by simp, _, rfl⟩
set_option maxRecDepth 100000 in
theorem cutBy_any (w : World) (c : UInt8) (s : ByteArray) (hs : s.size ≤ 1000000) :
    Calls Tryz.prog 60 #[.string s, .string ⟨#[c]⟩] w fun e w' => e = .returned (.tuple #[.string (cutBy c s).1, .string (cutBy c s).2.1, .bool (cutBy c s).2.2]) ∧ ∃ m, w' = w.drewN m := by
  have HC := Lib.hid (cutLiteBy_any w c s hs)
  go_enter Tryz.func60, Tryz.ntmps60
  go_wp2_with fail
  refine HC.out.mono ?_
  rintro e w1 ⟨rfl, m, rfl⟩
  go_wp2_with fail
  go_ret3
  exact ⟨rfl, _, rfl⟩
end Go.Proofs.YtjcbjocgachpjaaGreatDoor
/- The contract of archive.mark, at a mark's line without its sign. -/
set_option linter.unusedVariables false
set_option linter.unusedSimpArgs false
namespace Go.Proofs.YtjcbjocgachpjaaGreatDoor
open Go Go.RowKit
open Sw
/-- a mark's line without its sign -/
def bodyM (m : MkE) : ByteArray := mkB (m.1.data.toList ++ 9 :: textPL m.2)
set_option maxRecDepth 100000 in
set_option maxHeartbeats 4000000 in
theorem archMark_any (w : World) (m : MkE) (h : OkT m) :
    Calls Tryz.prog 30 #[.string (bodyM m)] w fun e w' => e = .returned (.agg (eCM m).toArray) ∧ Below w.heap.size w w' := by
  have hno := (right_no h.1.1).1
  have hln := right_len h.1.1
  have htl := textPL_len (print_two h.1.2.1 h.1.2.2).2
  have hpa := fun V => markParse_any V m h
  have hbd : bodyM m = m.1 ++ ⟨#[9]⟩ ++ mkB (textPL m.2) := by
    unfold bodyM mkB
    apply ByteArray.ext
    simp
  have hsz : (bodyM m).size ≤ 1000 := by
    unfold bodyM
    rw [mkB_size, List.length_append, List.length_cons]
    omega
  have hcu := fun V => cutBy_any V 9 (bodyM m) (by omega)
  have hcb : cutBy 9 (bodyM m) = (m.1, mkB (textPL m.2), true) := by rw [hbd]; exact cutBy_hit hno
  rw [hcb] at hcu
  obtain ⟨q, ⟨kd, md, tm, sz, sm⟩⟩ := m
  simp only [eCM] at hcu hpa ⊢
  unfold Pr.c at hpa
  simp only at hpa
  obtain ⟨s, hs⟩ : ∃ s, bodyM (q, ⟨kd, md, tm, sz, sm⟩) = s := ⟨_, rfl⟩
  obtain ⟨tx, htx⟩ : ∃ tx, mkB (textPL (⟨kd, md, tm, sz, sm⟩ : Pr)) = tx := ⟨_, rfl⟩
  rw [hs, htx] at hcu
  rw [htx] at hpa
  rw [hs]
  have HCU := Lib.hid hcu
  have HPA := Lib.hid hpa
  clear hcu hpa hcb hsz hbd hs htx htl hln hno h
  have hb0 : Below w.heap.size w (w.alloc (.cells #[.string ⟨#[]⟩, .int .i64 0, .int .i64 0, .int .u32 0, .int .i64 0, .int .u32 0] 61)) := (Below.refl _ w).alloc (Nat.le_refl _) _
  have hR0 := Blk.new w 61 #[.string ⟨#[]⟩, .int .i64 0, .int .i64 0, .int .u32 0, .int .i64 0, .int .u32 0]
  obtain ⟨W, hW⟩ : ∃ W, w.alloc (.cells #[.string ⟨#[]⟩, .int .i64 0, .int .i64 0, .int .u32 0, .int .i64 0, .int .u32 0] 61) = W := ⟨_, rfl⟩
  rw [hW] at hb0 hR0
  have H0 := Lib.hid (And.intro hW (And.intro hb0 hR0)); clear hW hb0 hR0
  go_enter Tryz.func30, Tryz.ntmps30
  go_upto_region 1 with fail
  rw [H0.out.1]
  go_wp2_with fail
  refine (HCU.out W).mono ?_
  rintro e w1 ⟨rfl, m1, hw1⟩
  have hb1 : Below W.heap.size W w1 := by rw [hw1]; exact below_drewN (Below.refl _ W) m1
  have H1 := Lib.hid (And.intro (H0.out.2.1.trans (hb1.mono H0.out.2.1.size)) (H0.out.2.2.below hb1 H0.out.2.2.lt))
  clear hb1 hw1
  go_wp2_with fail
  refine (HPA.out w1).mono ?_
  rintro e w2 ⟨rfl, hb2⟩
  have hR2 := H1.out.2.below hb2 H1.out.2.lt
  have hb2w := H1.out.1.trans (hb2.mono H1.out.1.size)
  obtain ⟨W3, hW3⟩ : ∃ W3, w2.alloc (.cells #[.int .i64 kd, .int .i64 md, .int .u32 tm, .int .i64 sz, .int .u32 sm] 55) = W3 := ⟨_, rfl⟩
  have hba : Below w2.heap.size w2 W3 := by rw [← hW3]; exact (Below.refl _ w2).alloc (Nat.le_refl _) _
  have hP3 : Blk W3 w2.heap.size 55 #[.int .i64 kd, .int .i64 md, .int .u32 tm, .int .i64 sz, .int .u32 sm] := by rw [← hW3]; exact Blk.new _ _ _
  have hR3 := hR2.below hba hR2.lt
  have H3 := Lib.hid (And.intro hW3 (And.intro (hb2w.trans (hba.mono hb2w.size)) (And.intro hR3 hP3)))
  have p0 := hP3.cell 0
  have p1 := hP3.cell 1
  have p2 := hP3.cell 2
  have p3 := hP3.cell 3
  have p4 := hP3.cell 4
  have r0 := hR3.cell 0
  have r1 := hR3.cell 1
  have r2 := hR3.cell 2
  have r3 := hR3.cell 3
  have r4 := hR3.cell 4
  have r5 := hR3.cell 5
  simp only [List.getElem?_toArray, List.getElem?_cons_succ, List.getElem?_cons_zero] at p0 p1 p2 p3 p4 r0 r1 r2 r3 r4 r5
  have f0 := hR3.frozen 0
  have f1 := hR3.frozen 1
  have f2 := hR3.frozen 2
  have f3 := hR3.frozen 3
  have f4 := hR3.frozen 4
  have f5 := hR3.frozen 5
  clear hb2 hR2 hb2w hW3 hba hP3 hR3
  go_upto_region 3 with fail
  rw [H3.out.1]
  go_wp2_with fail
  have hq := (((((H3.out.2.2.1.put 0 (.string q)).put 1 (.int .i64 kd)).put 2 (.int .i64 md)).put 3 (.int .u32 tm)).put 4 (.int .i64 sz)).put 5 (.int .u32 sm)
  refine bodyPost_ret (v := .agg #[.string q, .int .i64 kd, .int .i64 md, .int .u32 tm, .int .i64 sz, .int .u32 sm]) (results_cell_row rfl _ _ w.heap.size 61 #[.string q, .int .i64 kd, .int .i64 md, .int .u32 tm, .int .i64 sz, .int .u32 sm] (0, 0) _ rfl hq Tryz.underlying61 rfl (by kernel_rfl)) rfl ⟨rfl, ?_⟩
  have hGe : w.heap.size ≤ w.heap.size := Nat.le_refl _
  exact (((((H3.out.2.1.setCell (p := ⟨w.heap.size, 0, none⟩) hGe (.string q)).setCell (p := ⟨w.heap.size, 1, none⟩) hGe (.int .i64 kd)).setCell (p := ⟨w.heap.size, 2, none⟩) hGe (.int .i64 md)).setCell (p := ⟨w.heap.size, 3, none⟩) hGe (.int .u32 tm)).setCell (p := ⟨w.heap.size, 4, none⟩) hGe (.int .i64 sz)).setCell (p := ⟨w.heap.size, 5, none⟩) hGe (.int .u32 sm)
end Go.Proofs.YtjcbjocgachpjaaGreatDoor
