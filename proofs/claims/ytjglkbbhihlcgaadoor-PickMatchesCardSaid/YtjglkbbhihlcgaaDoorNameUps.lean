/- Contracts of name.Parts, Parent, Base, Ups, and of the reference's Ups. -/
import Derived.Test.YtjglkbbhihlcgaaDoorUpsPlain
import Derived.Lib.EndianMore
set_option linter.unusedVariables false
set_option linter.unusedSimpArgs false
namespace Go.Proofs.YtjglkbbhihlcgaaDoor
open Go Go.RowKit
open Sw
/-- texts that can be read -/
def SlPost (l : List ByteArray) (w : World) (e : Ending) (w' : World) : Prop := ∃ v, e = .returned v ∧ SlV w' 1 bE v l ∧ Below w.heap.size w w'
theorem strPost_sl {l : List ByteArray} {w : World} {e : Ending} {w' : World} (h : StrPost l w e w') : SlPost l w e w' := by
  obtain ⟨v, h1, h2, h3⟩ := h
  exact ⟨v, h1, SlV.of_own h2 bE_len (by omega), h3⟩
theorem flat_bE (l : List ByteArray) : l.flatMap bE = l.map Value.string := by
  induction l with
  | nil => rfl
  | cons a l ih => rw [List.flatMap_cons, ih]; rfl
set_option maxRecDepth 100000 in
set_option maxHeartbeats 1000000 in
theorem parts_any (w : World) (s : ByteArray) (hs : s.size ≤ 100000) :
    Calls Tryd.prog 31 #[.string s] w (SlPost (partsS s) w) := by
  have HR := Lib.hid (right_any w s (by omega))
  have HS := Lib.hid (fun W => split_one W s hs)
  have hlen := spS_len s
  have hp := partsS_right (s := s)
  have hn := partsS_not (s := s)
  have hF1 := fun (w1 w2 : World) (hb1 : Below w.heap.size w w1) (h : w2 = w1.alloc (.cells ((spS s).map Value.string).toArray 9)) => (show SlV w2 1 bE (.slice (some ⟨w1.heap.size, 0, none⟩) (spS s).length (spS s).length) (spS s) ∧ Below w.heap.size w w2 from by
    subst h
    have hB := Blk.new w1 9 ((spS s).map Value.string).toArray
    refine ⟨⟨_, _, rfl, Nat.le_refl _, by unfold maxLen; omega, fun _ => ⟨w1.heap.size, 0, rfl, hB.lt, fun i hi j hj => ?_⟩⟩, hb1.alloc hb1.size _⟩
    have hj0 : j = 0 := by omega
    subst hj0
    rw [hB.cell]
    simp [bE, List.getElem?_eq_getElem hi])
  generalize rightL s.data.toList = U at *
  cases U with
  | false =>
    have HF := Lib.hid (fun (w1 : World) (hb1 : Below w.heap.size w w1) => (show SlPost (partsS s) w (.returned (.slice none 0 0)) w1 from ⟨_, rfl, by rw [hn rfl]; exact ⟨none, 0, rfl, Nat.le_refl _, by unfold maxLen; omega, SlOf.nil _ _ _ _⟩, hb1⟩))
    clear hp hn hF1
    go_enter Tryd.func31, Tryd.ntmps31
    go_wp2_with fail
    refine HR.out.mono ?_
    rintro e w1 ⟨rfl, hb1⟩
    have HG := Lib.hid (HF.out w1 hb1)
    go_wp2_with fail
    go_ret
    exact HG.out
  | true =>
    have HF := Lib.hid (fun (w1 w2 : World) (hb1 : Below w.heap.size w w1) (h : w2 = w1.alloc (.cells ((spS s).map Value.string).toArray 9)) => (show SlPost (partsS s) w (.returned (.slice (some ⟨w1.heap.size, 0, none⟩) (spS s).length (spS s).length)) w2 from ⟨_, rfl, by rw [hp rfl]; exact (hF1 w1 w2 hb1 h).1, (hF1 w1 w2 hb1 h).2⟩))
    clear hp hn hF1
    go_enter Tryd.func31, Tryd.ntmps31
    go_wp2_with fail
    refine HR.out.mono ?_
    rintro e w1 ⟨rfl, hb1⟩
    go_wp2_with fail
    refine (HS.out w1).mono ?_
    rintro e w2 ⟨rfl, hw2⟩
    have HG := Lib.hid (HF.out w1 w2 hb1 hw2)
    clear hw2
    go_wp2_with fail
    go_ret
    exact HG.out
theorem last_47 (w : World) (s : ByteArray) (hs : s.size ≤ 1000000) :
    Calls Tryd.prog 53 #[.string s, .string ⟨#[47]⟩] w fun e w' => e = .returned (.int .i64 (Lib.lastIndexByte s 47)) ∧ w' = w :=
  Tryd.strings_LastIndex_one s ⟨#[47]⟩ rfl (by omega) w
set_option maxRecDepth 100000 in
set_option maxHeartbeats 1000000 in
theorem parent_any (w : World) (s : ByteArray) (hs : s.size ≤ 100000) :
    Calls Tryd.prog 32 #[.string s] w fun e w' => e = .returned (.string (parentS s)) ∧ Below w.heap.size w w' := by
  have HR := Lib.hid (right_any w s (by omega))
  have HL := Lib.hid (last_47 w s (by omega))
  rcases Lib.lastIndexByte_spec s 47 with ⟨hi, hno⟩ | ⟨i, hlt, hi, h1, h2⟩
  · have hp : parentS s = ⟨#[]⟩ := by
      cases hr : rightL s.data.toList with
      | false => exact (parent_not hr).1
      | true =>
        unfold parentS
        rw [partsS_right hr, last_miss hno]
        rfl
    rw [hi] at HL
    have HP := Lib.hid hp; clear hp hno hi
    go_enter Tryd.func32, Tryd.ntmps32
    go_wp2_with fail
    refine HL.out.mono ?_
    rintro e w1 ⟨rfl, rfl⟩
    go_wp2_with fail
    go_ret
    exact ⟨by rw [HP.out]; first | done | rfl, Below.refl _ _⟩
  · have hsp := last_hit hlt h1 h2
    rw [hi] at HL
    cases hr : rightL s.data.toList with
    | false =>
      rw [hr] at HR
      have HP := Lib.hid (parent_not hr).1
      clear hsp h1 h2 hi hr
      go_enter Tryd.func32, Tryd.ntmps32
      go_wp2_with fail
      refine HL.out.mono ?_
      rintro e w1 ⟨rfl, rfl⟩
      go_wp2_with fail
      refine HR.out.mono ?_
      rintro e w2 ⟨rfl, hb2⟩
      go_wp2_with fail
      go_ret
      exact ⟨by rw [HP.out]; first | done | rfl, hb2⟩
    | true =>
      rw [hr] at HR
      have HP := Lib.hid (show parentS s = s.extract 0 i by
        unfold parentS
        rw [partsS_right hr, hsp, List.dropLast_concat, jn_spS, mkB_data])
      have hiI : (i : Int) ≤ s.size := by omega
      clear hsp h1 h2 hi hr
      go_enter Tryd.func32, Tryd.ntmps32
      go_wp2_with fail
      refine HL.out.mono ?_
      rintro e w1 ⟨rfl, rfl⟩
      go_wp2_with fail
      refine HR.out.mono ?_
      rintro e w2 ⟨rfl, hb2⟩
      go_wp2_with fail
      go_ret
      exact ⟨by rw [HP.out]; first | done | rfl, hb2⟩
set_option maxRecDepth 100000 in
set_option maxHeartbeats 1000000 in
theorem base_any (w : World) (s : ByteArray) (hs : s.size ≤ 100000) :
    Calls Tryd.prog 33 #[.string s] w fun e w' => e = .returned (.string (baseS s)) ∧ Below w.heap.size w w' := by
  have HR := Lib.hid (right_any w s (by omega))
  have HL := Lib.hid (fun W => last_47 W s (by omega))
  cases hr : rightL s.data.toList with
  | false =>
    rw [hr] at HR
    have HP := Lib.hid (parent_not hr).2
    clear hr HL
    go_enter Tryd.func33, Tryd.ntmps33
    go_wp2_with fail
    refine HR.out.mono ?_
    rintro e w2 ⟨rfl, hb2⟩
    go_wp2_with fail
    go_ret
    exact ⟨by rw [HP.out]; first | done | rfl, hb2⟩
  | true =>
    rw [hr] at HR
    rcases Lib.lastIndexByte_spec s 47 with ⟨hi, hno⟩ | ⟨i, hlt, hi, h1, h2⟩
    · have hp : baseS s = s := by
        unfold baseS
        rw [partsS_right hr, last_miss hno]
        rfl
      have hx : s.extract 0 s.size = s := by
        apply ByteArray.ext
        simp
      rw [hi] at HL
      have HP := Lib.hid (And.intro hp hx); clear hp hno hi hr hx
      go_enter Tryd.func33, Tryd.ntmps33
      go_wp2_with fail
      refine HR.out.mono ?_
      rintro e w2 ⟨rfl, hb2⟩
      go_wp2_with fail
      refine (HL.out _).mono ?_
      rintro e w3 ⟨rfl, rfl⟩
      go_wp2_with fail
      go_ret
      exact ⟨by rw [HP.out.1]; first | done | (rw [← HP.out.2]; rfl) | rfl, hb2⟩
    · have hp : baseS s = s.extract (i + 1) s.size := by
        unfold baseS
        rw [partsS_right hr, last_hit hlt h1 h2]
        simp
      rw [hi] at HL
      have HP := Lib.hid hp; clear hp h1 h2 hi hr
      have hiI : (i : Int) + 1 ≤ s.size := by omega
      go_enter Tryd.func33, Tryd.ntmps33
      go_wp2_with fail
      refine HR.out.mono ?_
      rintro e w2 ⟨rfl, hb2⟩
      go_wp2_with fail
      refine (HL.out _).mono ?_
      rintro e w3 ⟨rfl, rfl⟩
      go_wp2_with fail
      go_ret
      exact ⟨by rw [HP.out]; first | done | rfl, hb2⟩
end Go.Proofs.YtjglkbbhihlcgaaDoor
