/- Several texts, joined for the limit of sixty files; each one opens with its own comment. -/
import Derived.Test.YtjcbjocgachpjaaGreatDoorJoin3
import Derived.Test.YtjcbjocgachpjaaGreatDoorJoin4
import Derived.Test.YtjcbjocgachpjaaGreatDoorJoin1
import Derived.BigQuiet
import Derived.Laws.Rows
/- Contracts of the reference's Part and Split. -/
set_option linter.unusedVariables false
set_option linter.unusedSimpArgs false
namespace Go.Proofs.YtjcbjocgachpjaaGreatDoor
open Go Go.RowKit
open Sw
set_option maxRecDepth 100000 in
set_option maxHeartbeats 4000000 in
theorem refPart_any (w : World) (s : ByteArray) (hs : s.size ≤ 1000000) :
    Calls Tryz.prog 104 #[.string s] w fun e w' => e = .returned (.bool (partL s.data.toList)) ∧ w = w' := by
  have HL := Lib.hid (refUtf_any w s hs)
  obtain ⟨U, hU⟩ : ∃ U, partL s.data.toList = U := ⟨_, rfl⟩
  have HP := Lib.hid (show partL s.data.toList = (s.data.toList.all okB && decide (1 ≤ s.data.toList.length ∧ s.data.toList.length ≤ 60) && decide (s.data.toList ≠ [46]) && decide (s.data.toList ≠ [46, 46]) && utfD 0 0 0 s.data.toList) from rfl)
  rw [hU] at HP ⊢
  have HU := Lib.hid hU; clear hU
  go_enter Tryz.func104, Tryz.ntmps104
  go_wp2_with fail
  go_loopw [2, 3, 4] (fun r iv _ wr => ∃ i : Nat, i ≤ s.size ∧ r = .bool false ∧ iv = .int .i64 i ∧ (s.data.toList.take i).all okB = true ∧ w = wr) (fun _ iv _ _ => s.size - (intOf iv).toNat)
  case atStart => exact ⟨0, Nat.zero_le _, rfl, rfl, by simp, rfl⟩
  case round =>
    obtain ⟨i, hi, rfl, rfl, hall, rfl⟩ := hrel
    by_cases hlt : i < s.size
    · have hok : okB s[i] = !(decide (s[i].toNat < 32) || decide (s[i].toNat = 127) || decide (s[i].toNat = 47) || decide (s[i].toNat = 92) || decide (s[i].toNat = 58)) := rfl
      have hstep := all_step s i hlt hall
      have hbad := fun h => partL_bad (l := s.data.toList) (i := i) (by simpa using hlt) h
      have hel : s.data.toList[i]'(by simpa using hlt) = s[i] := rfl
      rw [hel] at hbad
      generalize okB s[i] = ok at *
      have hc6 : s[i].toNat < 256 := s[i].toNat_lt
      generalize hx : s[i].toNat = x at *
      have hxI : ((s[i].toNat : Nat) : Int) = x := by rw [hx]
      clear hx hel
      have HOK := Lib.hid hok; clear hok
      have HST := Lib.hid hstep; clear hstep hall
      have HBD := Lib.hid hbad; clear hbad
      go_upto_region 5 with fail
      go_cut [31] from 14 to 31 (fun v wx => v = .bool (!ok) ∧ wx = w)
      case first =>
        by_cases c1 : x < 32
        · have HV := Lib.hid (show ok = false by rw [HOK.out, decide_eq_true c1]; rfl)
          have t1 : (x : Int) < 32 := by omega
          clear c1
          go_wp2_with fail
          go_meet
          case rel => exact ⟨by rw [HV.out]; first | done | rfl, rfl⟩
        · skip
          by_cases c2 : x = 127
          · have HV := Lib.hid (show ok = false by rw [HOK.out, decide_eq_false c1, decide_eq_true c2]; rfl)
            have t1 : ¬ (x : Int) < 32 := by omega
            have e1 : ((x : Int) == 127) = true := by rw [beq_iff_eq]; omega
            clear c1 c2
            go_wp2_with fail
            go_meet
            case rel => exact ⟨by rw [HV.out]; first | done | rfl, rfl⟩
          · skip
            by_cases c3 : x = 47
            · have HV := Lib.hid (show ok = false by rw [HOK.out, decide_eq_false c1, decide_eq_false c2, decide_eq_true c3]; rfl)
              have t1 : ¬ (x : Int) < 32 := by omega
              have e1 : ((x : Int) == 127) = false := by rw [beq_eq_false_iff_ne]; omega
              have e2 : ((x : Int) == 47) = true := by rw [beq_iff_eq]; omega
              clear c1 c2 c3
              go_wp2_with fail
              go_meet
              case rel => exact ⟨by rw [HV.out]; first | done | rfl, rfl⟩
            · skip
              by_cases c4 : x = 92
              · have HV := Lib.hid (show ok = false by rw [HOK.out, decide_eq_false c1, decide_eq_false c2, decide_eq_false c3, decide_eq_true c4]; rfl)
                have t1 : ¬ (x : Int) < 32 := by omega
                have e1 : ((x : Int) == 127) = false := by rw [beq_eq_false_iff_ne]; omega
                have e2 : ((x : Int) == 47) = false := by rw [beq_eq_false_iff_ne]; omega
                have e3 : ((x : Int) == 92) = true := by rw [beq_iff_eq]; omega
                clear c1 c2 c3 c4
                go_wp2_with fail
                go_meet
                case rel => exact ⟨by rw [HV.out]; first | done | rfl, rfl⟩
              · skip
                by_cases c5 : x = 58
                · have HV := Lib.hid (show ok = false by rw [HOK.out, decide_eq_false c1, decide_eq_false c2, decide_eq_false c3, decide_eq_false c4, decide_eq_true c5]; rfl)
                  have t1 : ¬ (x : Int) < 32 := by omega
                  have e1 : ((x : Int) == 127) = false := by rw [beq_eq_false_iff_ne]; omega
                  have e2 : ((x : Int) == 47) = false := by rw [beq_eq_false_iff_ne]; omega
                  have e3 : ((x : Int) == 92) = false := by rw [beq_eq_false_iff_ne]; omega
                  have e4 : ((x : Int) == 58) = true := by rw [beq_iff_eq]; omega
                  clear c1 c2 c3 c4 c5
                  go_wp2_with fail
                  go_meet
                  case rel => exact ⟨by rw [HV.out]; first | done | rfl, rfl⟩
                · have HV := Lib.hid (show ok = true by rw [HOK.out, decide_eq_false c1, decide_eq_false c2, decide_eq_false c3, decide_eq_false c4, decide_eq_false c5]; rfl)
                  have t1 : ¬ (x : Int) < 32 := by omega
                  have e1 : ((x : Int) == 127) = false := by rw [beq_eq_false_iff_ne]; omega
                  have e2 : ((x : Int) == 47) = false := by rw [beq_eq_false_iff_ne]; omega
                  have e3 : ((x : Int) == 92) = false := by rw [beq_eq_false_iff_ne]; omega
                  have e4 : ((x : Int) == 58) = false := by rw [beq_eq_false_iff_ne]; omega
                  clear c1 c2 c3 c4 c5
                  go_wp2_with fail
                  go_meet
                  case rel => exact ⟨by rw [HV.out]; first | done | rfl, rfl⟩
      case rest =>
        obtain ⟨rfl, rfl⟩ := hcut
        clear HOK
        cases ok with
        | false =>
          have HF := Lib.hid (show U = false by rw [← HU.out]; exact HBD.out rfl)
          go_wp2_with fail
          go_ret
          exact ⟨by rw [HF.out]; first | done | rfl, rfl⟩
        | true =>
          have HN := Lib.hid (HST.out rfl)
          go_wp2_with fail
          go_roundw
          case rel => exact ⟨i + 1, by omega, rfl, by go_num, HN.out, by simp⟩
          case measure => simp [intOf]; omega
    · obtain rfl : i = s.size := by omega
      rw [List.take_of_length_le (by simp)] at hall
      have hP := HP.out
      have hlen : s.data.toList.length = s.size := by simp
      have hs1 := str_eq_iff s [46]
      have hs2 := str_eq_iff s [46, 46]
      rw [hall, hlen, Bool.true_and] at hP
      clear hall HP HU hlen hlt
      generalize s.data.toList = L at *
      generalize utfD 0 0 0 L = V at *
      have HP := Lib.hid hP; clear hP
      by_cases c1 : (0 : Int) < s.size
      · by_cases c2 : (s.size : Int) ≤ 60
        · by_cases c3 : L = [46]
          · have hb : (s.toList == [46]) = true := by rw [hs1, decide_eq_true c3]
            have HF := Lib.hid (show U = false by rw [HP.out, decide_eq_true (show 1 ≤ s.size ∧ s.size ≤ 60 by omega), decide_eq_false (fun h => h c3)]; rfl)
            clear hs1 hs2 c3
            go_wp2_with fail
            go_ret
            exact ⟨by rw [HF.out]; first | done | rfl, rfl⟩
          · have hb : (s.toList == [46]) = false := by rw [hs1, decide_eq_false c3]
            by_cases c4 : L = [46, 46]
            · have hb2 : (s.toList == [46, 46]) = true := by rw [hs2, decide_eq_true c4]
              have HF := Lib.hid (show U = false by rw [HP.out, decide_eq_true (show 1 ≤ s.size ∧ s.size ≤ 60 by omega), decide_eq_true c3, decide_eq_false (fun h => h c4)]; rfl)
              clear hs1 hs2 c3 c4
              go_wp2_with fail
              go_ret
              exact ⟨by rw [HF.out]; first | done | rfl, rfl⟩
            · have hb2 : (s.toList == [46, 46]) = false := by rw [hs2, decide_eq_false c4]
              have HF := Lib.hid (show U = V by rw [HP.out, decide_eq_true (show 1 ≤ s.size ∧ s.size ≤ 60 by omega), decide_eq_true c3, decide_eq_true c4]; rfl)
              clear hs1 hs2 c3 c4
              go_wp2_with fail
              refine HL.out.mono ?_
              rintro e w1 ⟨rfl, rfl⟩
              go_wp2_with fail
              go_ret
              exact ⟨by rw [HF.out]; first | done | rfl, rfl⟩
        · have HF := Lib.hid (show U = false by rw [HP.out, decide_eq_false (show ¬ (1 ≤ s.size ∧ s.size ≤ 60) by omega)]; rfl)
          clear hs1 hs2
          go_wp2_with fail
          go_ret
          exact ⟨by rw [HF.out]; first | done | rfl, rfl⟩
      · have HF := Lib.hid (show U = false by rw [HP.out, decide_eq_false (show ¬ (1 ≤ s.size ∧ s.size ≤ 60) by omega)]; rfl)
        clear hs1 hs2
        go_wp2_with fail
        go_ret
        exact ⟨by rw [HF.out]; first | done | rfl, rfl⟩
/-- a text as it lies -/
def bE (t : ByteArray) : List Value := [.string t]
theorem bE_len (t : ByteArray) : (bE t).length = 1 := rfl
theorem info_str : (Tryz.prog.info? 9).map (fun i => (i.zero, i.size, i.bytes)) = some (some (.string ByteArray.empty), 1, 16) := by kernel_rfl
/-- texts that the call made -/
def StrPost (l : List ByteArray) (w : World) (e : Ending) (w' : World) : Prop := ∃ v, e = .returned v ∧ w'.ownsRow w.heap.size 9 1 v l.length (l.flatMap bE) ∧ Below w.heap.size w w'
theorem mkB_cat (cur : List UInt8) (s : ByteArray) (i : Nat) (h : i < s.size) : mkB cur ++ s.extract i (i + 1) = mkB (cur ++ [s[i]]) := by
  apply ByteArray.ext
  rw [ByteArray.data_append, ByteArray.data_extract]
  apply Array.ext'
  rw [Array.toList_append, Array.toList_extract, List.extract_eq_take_drop]
  have hd : s.data.toList.drop i = s[i] :: s.data.toList.drop (i + 1) := by rw [List.drop_eq_getElem_cons (by simpa using h)]; rfl
  rw [hd, show i + 1 - i = 1 by omega]
  simp [mkB]
theorem flat_snoc (l : List ByteArray) (x : ByteArray) : (l ++ [x]).flatMap bE = l.flatMap bE ++ [.string x] := by simp [bE]
set_option maxRecDepth 100000 in
set_option maxHeartbeats 4000000 in
theorem refSplit_any (w : World) (s : ByteArray) (hs : s.size ≤ 100000) :
    Calls Tryz.prog 103 #[.string s] w (StrPost (spS s) w) := by
  have HF := Lib.hid (fun v l w' (hl : l = spS s) (h : w'.ownsRow w.heap.size 9 1 v l.length (l.flatMap bE)) (hb : Below w.heap.size w w') => (show StrPost (spS s) w (.returned v) w' from ⟨v, rfl, by rw [← hl]; exact h, hb⟩))
  have htot := spS_len s
  go_enter Tryz.func103, Tryz.ntmps103
  go_wp2_with fail
  go_loopw [3, 4, 5] (fun o cv iv wr => ∃ (i : Nat) (out : List ByteArray) (cur : List UInt8), i ≤ s.size ∧ iv = .int .i64 i ∧ cv = .string (mkB cur) ∧ (47 : UInt8) ∉ cur ∧ cur.length ≤ i ∧ out.length ≤ i ∧ out ++ (spL (cur ++ s.data.toList.drop i)).map mkB = spS s ∧ wr.ownsRow w.heap.size 9 1 o out.length (out.flatMap bE) ∧ Below w.heap.size w wr) (fun _ _ iv _ => s.size - (intOf iv).toNat)
  case atStart => exact ⟨0, [], [], Nat.zero_le _, rfl, rfl, by simp, by simp, by simp, rfl, ⟨rfl, .inl ⟨rfl, rfl⟩⟩, Below.refl _ _⟩
  case round =>
    obtain ⟨i, out, cur, hi, rfl, rfl, hno, hcl, hol, hsp, hown, hbw⟩ := hrel
    by_cases hlt : i < s.size
    · have hd : s.data.toList.drop i = s[i] :: s.data.toList.drop (i + 1) := by rw [List.drop_eq_getElem_cons (by simpa using hlt)]; rfl
      rw [hd] at hsp
      have hcs := mkB_size cur
      by_cases hb : s[i] = 47
      · have hbb : ((s[i].toNat : Int) == 47) = true := by rw [hb]; rfl
        rw [hb, spL_app cur _ hno, List.map_cons] at hsp
        have hsp' : (out ++ [mkB cur]) ++ (spL ([] ++ s.data.toList.drop (i + 1))).map mkB = spS s := by rw [List.append_assoc]; exact hsp
        have hrs := flat_snoc out (mkB cur)
        have hl1 : (out ++ [mkB cur]).length = out.length + 1 := by simp
        have hl6 : out.length + 1 ≤ 1000000 := by omega
        have HRS := Lib.hid (And.intro hrs hl1); clear hrs hl1
        have HO := Lib.hid hown; clear hown
        have HSP := Lib.hid hsp'; clear hsp' hsp hd hb
        have hx0 : (⟨#[]⟩ : ByteArray) = mkB [] := rfl
        have HX0 := Lib.hid hx0; clear hx0
        generalize mkB cur = C at *
        go_wp2_with (refine wpList_app rfl _ _ 66 rfl w.heap.size 9 (.string ByteArray.empty) 1 16 Tryz.underlying66 info_str rfl (by omega) u3 out.length (out.flatMap bE) (by simp [Act.eval, Act.put]) (own_kept HO.out ((Below.refl _ _).alloc (Nat.le_refl _) _)) wr.heap.size 1 _ _ (by simp [Act.eval, Act.put]) (Blk.new _ _ _) rfl (by simp [Value.oneCell']) hl6 (by omega) (by have := hbw.size; simp; omega) _ rfl ?_; intro g2 cap2 w5 ho2 hg2 hat2 hlt2)
        have hw5 : Below w.heap.size w w5 := own_below HO.out (hbw.alloc hbw.size _) hg2 (Nat.le_refl _) (by have := hbw.size; simp; omega)
        go_roundw
        case rel => exact ⟨i + 1, out ++ [C], [], by omega, by go_num, by rw [HX0.out], by simp, by simp, by rw [HRS.out.2]; omega, HSP.out, by rw [HRS.out.1, HRS.out.2]; exact ho2, hw5⟩
        case measure => simp [intOf]; omega
      · have hbb : ((s[i].toNat : Int) == 47) = false := by
          rw [beq_eq_false_iff_ne]
          intro e
          apply hb
          have h47 : s[i].toNat = 47 := by omega
          exact UInt8.toNat_inj.1 (h47.trans rfl)
        have hsp' : out ++ (spL ((cur ++ [s[i]]) ++ s.data.toList.drop (i + 1))).map mkB = spS s := by rw [List.append_assoc]; exact hsp
        have hno' : (47 : UInt8) ∉ cur ++ [s[i]] := by
          rw [List.mem_append, List.mem_singleton, not_or]
          exact ⟨hno, fun e => hb e.symm⟩
        have hcat : mkB cur ++ s.extract i (i + 1) = mkB (cur ++ [s[i]]) := mkB_cat cur s i hlt
        have hes : (s.extract i (i + 1)).size = 1 := by rw [ByteArray.size_extract]; omega
        have HO := Lib.hid hown; clear hown
        have HSP := Lib.hid (And.intro hsp' (And.intro hno' hcat)); clear hsp' hsp hd hb hno' hcat
        generalize mkB cur = C at *
        go_wp2_with fail
        go_roundw
        case rel => exact ⟨i + 1, out, cur ++ [s[i]], by omega, by go_num, by rw [HSP.out.2.2], HSP.out.2.1, by simp; omega, by omega, HSP.out.1, HO.out, hbw⟩
        case measure => simp [intOf]; omega
    · obtain rfl : i = s.size := by omega
      rw [List.drop_of_length_le (by simp), List.append_nil, spL_none cur hno, List.map_singleton] at hsp
      have hrs := flat_snoc out (mkB cur)
      have hl1 : (out ++ [mkB cur]).length = out.length + 1 := by simp
      have hl6 : out.length + 1 ≤ 1000000 := by omega
      have HRS := Lib.hid (And.intro hrs hl1); clear hrs hl1
      have HO := Lib.hid hown; clear hown
      have HSP := Lib.hid hsp; clear hsp hlt
      generalize mkB cur = C at *
      go_wp2_with (refine wpList_app rfl _ _ 66 rfl w.heap.size 9 (.string ByteArray.empty) 1 16 Tryz.underlying66 info_str rfl (by omega) u3 out.length (out.flatMap bE) (by simp [Act.eval, Act.put]) (own_kept HO.out ((Below.refl _ _).alloc (Nat.le_refl _) _)) wr.heap.size 1 _ _ (by simp [Act.eval, Act.put]) (Blk.new _ _ _) rfl (by simp [Value.oneCell']) hl6 (by omega) (by have := hbw.size; simp; omega) _ rfl ?_; intro g2 cap2 w5 ho2 hg2 hat2 hlt2)
      have hw5 : Below w.heap.size w w5 := own_below HO.out (hbw.alloc hbw.size _) hg2 (Nat.le_refl _) (by have := hbw.size; simp; omega)
      have HFIN := Lib.hid (HF.out _ (out ++ [C]) w5 HSP.out (by rw [HRS.out.1, HRS.out.2]; exact ho2) hw5)
      go_ret
      exact HFIN.out
end Go.Proofs.YtjcbjocgachpjaaGreatDoor
/- A region that draws its order, whose calls may make memory: one walk in the text's order, in a class of worlds. Over any program. -/
set_option linter.unusedVariables false
namespace Sw
open Go Go.RowKit
/-- the worlds of which S holds -/
def Held (S : World → Prop) : Type := { w : World // S w }
def HeldW {S : World → Prop} (n : Held S) : World := n.1
theorem HeldW_spec {S : World → Prop} (n : Held S) : S (HeldW n) := n.2
theorem held_mk {S : World → Prop} (w : World) (h : S w) : ∃ n : Held S, w = HeldW n := ⟨⟨w, h⟩, rfl⟩
theorem held_some {S : World → Prop} {w : World} (h : S w) : Nonempty (Held S) := ⟨⟨w, h⟩⟩
theorem wp_region_class {P : Program} (S : World → Prop) {id : Nat} {Q : Exit → Act → World → Prop} {a : Act} {w : World} {l : List Oper} (hm : P.follows .mixedOrders = true) (hB : Region.lexB .any l.toArray = true) (hS : S w.drew)
    (h : wpQuiet P l.toArray (fun w' => ∃ n : Held S, w' = HeldW n) (fun a' => ∀ w', (∃ n : Held S, w' = HeldW n) → Q .normal a' w') l a) : (Code.region id l.toArray true).wp P Q a w :=
  wp_region_quiet (C := fun w' => ∃ n : Held S, w' = HeldW n) hm hB (held_mk (S := S) w.drew hS) (by simpa using h)
/-- a callee that leaves the world as it was -/
theorem held_same {P : Program} {S : World → Prop} {f : FuncId} {args : Array Value} {n : Held S} {v : Value} (h : Calls P f args (HeldW n) fun e w' => e = .returned v ∧ HeldW n = w') :
    Calls P f args (HeldW n) fun e w'' => e = .returned v ∧ ∃ m : Held S, w'' = HeldW m := h.mono fun e w' hr => ⟨hr.1, n, hr.2.symm⟩
/-- a callee that makes memory -/
theorem held_below {P : Program} {S : World → Prop} {f : FuncId} {args : Array Value} {n : Held S} {v : Value} (hS : ∀ w w' : World, S w → Below w.heap.size w w' → S w') (h : Calls P f args (HeldW n) fun e w' => e = .returned v ∧ Below (HeldW n).heap.size (HeldW n) w') :
    Calls P f args (HeldW n) fun e w'' => e = .returned v ∧ ∃ m : Held S, w'' = HeldW m := h.mono fun e w' hr => ⟨hr.1, held_mk _ (hS _ _ (HeldW_spec n) hr.2)⟩
/-- the worlds in which what lay in a lies as it lay -/
def Aft (a : World) (W : World) : Prop := Below a.heap.size a W
theorem Aft.keep {a : World} : ∀ w w' : World, Aft a w → Below w.heap.size w w' → Aft a w' := fun _ _ h k => Below.trans h (k.mono (Below.size h))
theorem Aft.start (a : World) : Aft a a.drew := (Below.refl _ a).drew
theorem Aft.cell {a : World} (n : Held (Aft a)) {p : Addr} (hp : p.block < a.heap.size) : (HeldW n).cell? p = a.cell? p := Below.cell (HeldW_spec n) hp
theorem Aft.some (a : World) : Nonempty (Held (Aft a)) := held_some (S := Aft a) (w := a.drew) (Aft.start a)
end Sw
/- The contract of name.Right. -/
set_option linter.unusedVariables false
set_option linter.unusedSimpArgs false
namespace Sw
open Go Go.RowKit
/-- what stands ahead of the first slash -/
def headS (s : ByteArray) : ByteArray := mkB ((spL s.data.toList).headD [])
theorem head_hit {X : ByteArray} {i : Nat} (h : Lib.indexByte X.data.toList 47 = i) : headS X = X.extract 0 i := by
  have h2 := (spS_hit h).2
  unfold spS at h2
  unfold headS
  cases hs : spL X.data.toList with
  | nil => exact absurd hs (spL_ne _)
  | cons a t =>
    rw [hs, List.map_cons] at h2
    injection h2
theorem head_miss {X : ByteArray} (h : Lib.indexByte X.data.toList 47 = -1) : headS X = X := by
  have h2 := spS_miss h
  unfold spS at h2
  unfold headS
  cases hs : spL X.data.toList with
  | nil => exact absurd hs (spL_ne _)
  | cons a t =>
    rw [hs, List.map_cons] at h2
    injection h2
end Sw
namespace Go.Proofs.YtjcbjocgachpjaaGreatDoor
open Go Go.RowKit Go.Shelf
open Sw
attribute [local go_sem] Oper.semAt_some
set_option maxRecDepth 100000 in
set_option maxHeartbeats 1000000 in
theorem cutLite_any (w : World) (s : ByteArray) (hs : s.size ≤ 1000000) :
    Calls Tryz.prog 96 #[.string s, .string ⟨#[47]⟩] w fun e w' => (∃ r b, e = .returned (.tuple #[.string (headS s), .string r, .bool b])) ∧ ∃ m, w' = w.drewN m := by
  have hix := Tryz.stringslite_Index_one s 47 w
  have hge := Lib.indexByte_ge s.data.toList 47
  obtain ⟨j, hj⟩ : ∃ j, Lib.indexByte s.data.toList 47 = j := ⟨_, rfl⟩
  rw [hj] at hix hge
  have HIX := Lib.hid hix; clear hix
  by_cases h0 : j < 0
  · obtain rfl : j = -1 := by omega
    have hh := Lib.hid (head_miss hj)
    clear hj hge
    go_enter Tryz.func96, Tryz.ntmps96
    go_wp2_with fail
    refine HIX.out.mono ?_
    rintro e w1 ⟨rfl, rfl⟩
    go_wp2_with fail
    go_ret3
    exact ⟨⟨_, _, by rw [hh.out]; first | done | rfl⟩, 0, rfl⟩
  · obtain ⟨i, rfl⟩ := Int.eq_ofNat_of_zero_le (show 0 ≤ j by omega)
    obtain ⟨hiX, _⟩ := spS_hit hj
    have hh := Lib.hid (head_hit hj)
    clear hj hge
    have hi1 : (i : Int) + 1 ≤ s.size := by omega
    go_enter Tryz.func96, Tryz.ntmps96
    go_wp2_with fail
    refine HIX.out.mono ?_
    rintro e w1 ⟨rfl, rfl⟩
    go_wp2_with fail
    go_region
    go_wp2_with fail
    go_ret3
    exact ⟨⟨_, _, by rw [hh.out]; first | done | rfl⟩, _, rfl⟩
set_option maxRecDepth 100000 in
theorem cut_any (w : World) (s : ByteArray) (hs : s.size ≤ 1000000) :
    Calls Tryz.prog 60 #[.string s, .string ⟨#[47]⟩] w fun e w' => (∃ r b, e = .returned (.tuple #[.string (headS s), .string r, .bool b])) ∧ ∃ m, w' = w.drewN m := by
  have HC := Lib.hid (cutLite_any w s hs)
  go_enter Tryz.func60, Tryz.ntmps60
  go_wp2_with fail
  refine HC.out.mono ?_
  rintro e w1 ⟨⟨r, b, rfl⟩, m, rfl⟩
  go_wp2_with fail
  go_ret3
  exact ⟨⟨_, _, rfl⟩, _, rfl⟩
set_option maxRecDepth 100000 in
theorem reserved_any (w : World) :
    Calls Tryz.prog 100 #[] w fun e w' => e = .returned (.string ⟨#[46, 115, 119, 105, 110, 103, 108, 101]⟩) ∧ w = w' := by
  go_enter Tryz.func100, Tryz.ntmps100
  go_wp2_with fail
  go_ret
  exact ⟨rfl, rfl⟩
end Go.Proofs.YtjcbjocgachpjaaGreatDoor
/- The contract of name.Right: the walk. -/
set_option linter.unusedVariables false
set_option linter.unusedSimpArgs false
namespace Sw
open Go Go.RowKit
theorem rightL_long {s : ByteArray} (h : 200 < s.size) : rightL s.data.toList = false := by
  unfold rightL
  rw [decide_eq_false (show ¬ s.data.toList.length ≤ 200 by have : s.data.toList.length = s.size := by simp
                                                            omega)]
  simp
theorem rightL_res {s : ByteArray} (h : headS s = mkB resL) : rightL s.data.toList = false := by
  unfold headS at h
  have h2 : (spL s.data.toList).headD [] = resL := by
    have := congrArg (fun b : ByteArray => b.data.toList) h
    simpa [data_mkB] using this
  unfold rightL
  rw [h2]
  simp
theorem rightL_bad {s : ByteArray} {pre : List ByteArray} {x : ByteArray} {r : List ByteArray} (h : spS s = (pre ++ [x]) ++ r) (hb : partL x.data.toList = false ∨ 12 < (pre ++ [x]).length) : rightL s.data.toList = false := by
  have h1 := congrArg (List.map (fun b : ByteArray => b.data.toList)) h
  unfold spS at h1
  rw [List.map_map] at h1
  have h2 : (spL s.data.toList).map ((fun b : ByteArray => b.data.toList) ∘ mkB) = spL s.data.toList := by
    conv => rhs; rw [← List.map_id (spL s.data.toList)]
    exact List.map_congr_left fun a _ => data_mkB a
  rw [h2, List.map_append, List.map_append] at h1
  unfold rightL
  rw [h1]
  rcases hb with hb | hb
  · have : (((pre.map fun b : ByteArray => b.data.toList) ++ [x].map fun b : ByteArray => b.data.toList) ++ r.map fun b : ByteArray => b.data.toList).all partL = false := by
      rw [List.all_eq_false]
      exact ⟨x.data.toList, by simp, by simp [hb]⟩
    rw [this]
    simp
  · rw [decide_eq_false (show ¬ _ ≤ 12 by simp at hb ⊢; omega)]
    simp
theorem rightL_good {s : ByteArray} {xs : List ByteArray} (h : xs = spS s) (h1 : s.size ≤ 200) (h2 : headS s ≠ mkB resL) (h3 : ∀ x ∈ xs, partL x.data.toList = true) (h4 : xs.length ≤ 12) : rightL s.data.toList = true := by
  subst h
  unfold spS at h3 h4
  rw [List.length_map] at h4
  unfold rightL
  have hl : s.data.toList.length = s.size := by simp
  rw [decide_eq_true (show s.data.toList.length ≤ 200 by omega), decide_eq_true h4, decide_eq_true (show (spL s.data.toList).headD [] ≠ resL from fun e => h2 (by unfold headS; rw [e]))]
  simp only [Bool.true_and, List.all_eq_true]
  intro x hx
  have := h3 (mkB x) (List.mem_map_of_mem hx)
  rwa [data_mkB] at this
end Sw
namespace Go.Proofs.YtjcbjocgachpjaaGreatDoor
open Go Go.RowKit Go.Shelf
open Sw
attribute [local go_sem] Oper.semAt_some
theorem res_cell_bool {P : Program} {fn : Func} {p : Tmp} {ty : TypeId} (h : fn.results = #[.cell p ty]) (tmps : Array Value) (w : World) (g : Nat) (u : TypeId) (b : Bool) (hp : tmps.getD p undef = .pointer (some ⟨g, 0, none⟩)) (hg : Blk w g u #[.bool b]) (hu : P.underlying ty = some .bool) :
    (results fn tmps).run P w = .ok (.bool b) w := by
  have hp' : tmps[p]?.getD undef = .pointer (some ⟨g, 0, none⟩) := by simpa using hp
  have c : w.cell? ⟨g, 0, none⟩ = some (.bool b) := by have := hg.cell 0; simpa using this
  have l2 : (loadVar ty ⟨g, 0, none⟩).run P w = .ok (.bool b) w := by simp [loadVar, isAgg, run_underlying hu, run_load, c]
  simp [results, h, hp', asAddr, l2]
/-- what Right knows between two rounds -/
def RtI (s : ByteArray) (T N : Nat) (pre : List (Pc s.size)) (W : World) : Prop :=
  (∀ x ∈ pre, partL x.1.data.toList = true) ∧ pre.length ≤ 12 ∧ Blk W T 4 #[.bool false] ∧ Blk W N 3 #[.int .i64 (pre.length : Nat)]
/-- how Right leaves a round -/
def RtX (s : ByteArray) (T : Nat) (c : Code) (pre : List (Pc s.size)) (W : World) : Prop :=
  (∃ (pre' : List (Pc s.size)) (x : Pc s.size), pre = pre' ++ [x] ∧ (partL x.1.data.toList = false ∨ 12 < pre.length) ∧ c = .ret) ∧ Blk W T 4 #[.bool false]
theorem rtI_own {s : ByteArray} {T N B M : Nat} (h1 : T ≠ M) (h2 : N ≠ M) : OwnM (fun k => k = M) B (RtI s T N) :=
  fun pre W W' row hs hg hr => ⟨hs.1, hs.2.1, blk_ownM hs.2.2.1 h1 hg hr, blk_ownM hs.2.2.2 h2 hg hr⟩
theorem rtX_own {s : ByteArray} {T B M : Nat} (h1 : T ≠ M) (c : Code) : OwnM (fun k => k = M) B (RtX s T c) :=
  fun pre W W' row hs hg hr => ⟨hs.1, blk_ownM hs.2 h1 hg hr⟩
set_option maxRecDepth 100000 in
set_option maxHeartbeats 4000000 in
theorem right_any (w : World) (s : ByteArray) (hs : s.size ≤ 1000000) :
    Calls Tryz.prog 63 #[.string s] w fun e w' => e = .returned (.bool (rightL s.data.toList)) ∧ Below w.heap.size w w' := by
  have HC := Lib.hid (fun W => cut_any W s hs)
  have HR := Lib.hid reserved_any
  have HQ := Lib.hid SplitSeq_any
  have HP := Lib.hid part_any
  have hres : ((headS s).toList == [46, 115, 119, 105, 110, 103, 108, 101]) = decide (headS s = mkB resL) := by
    rw [str_eq_iff]
    by_cases h : headS s = mkB resL
    · rw [decide_eq_true h, h, data_mkB]; rfl
    · rw [decide_eq_false h]
      refine decide_eq_false fun e => h ?_
      rw [← mkB_data (headS s), e]; rfl
  have hB0 := Blk.new w 4 #[.bool false]
  have hb0 : Below w.heap.size w (w.alloc (.cells #[.bool false] 4)) := (Below.refl _ _).alloc (Nat.le_refl _) _
  refine callsIn_wide.1 (?_ : CallsIn Fence.wide 9 _ _ _ _ _)
  refine callsIn_of_wp_marks Tryz.func63 rfl trivial ?_ rfl
  simp only [Tryz.ntmps63, List.size_toArray, List.length_cons, List.length_nil, Nat.reduceAdd, Nat.reduceSub, Array.replicate_succ, Array.replicate_zero, List.push_toArray, List.append_toArray, List.nil_append, List.cons_append]
  gi_wp2
  refine ⟨trivial, ?_⟩
  refine (callsIn_wide.2 (HC.out _)).mono ?_
  rintro e w1 ⟨⟨r, b, rfl⟩, m, rfl⟩
  have hB1 : Blk ((w.alloc (.cells #[.bool false] 4)).drewN m) w.heap.size 4 #[.bool false] := hB0
  have hb1 := below_drewN hb0 m
  clear hB0 hb0
  generalize (w.alloc (.cells #[.bool false] 4)).drewN m = w2 at *
  obtain ⟨T, hT⟩ : ∃ T, T = w.heap.size := ⟨_, rfl⟩
  rw [← hT] at hB1 hb1 ⊢
  have HTE := Lib.hid hT; clear hT
  have c0 := hB1.cell 0
  have f0 := hB1.frozen 0
  simp at c0
  have hlt := hB1.lt
  by_cases hbig : (200 : Int) < s.size
  · have HF := Lib.hid (rightL_long (s := s) (by omega))
    gi_wp2
    refine ⟨trivial, ?_⟩
    gi_wp2
    refine ⟨_, res_cell_bool rfl _ _ T 4 false rfl (hB1.put 0 (.bool false)) Tryz.underlying4, ?_⟩
    exact ⟨by rw [HF.out], by rw [← HTE.out]; exact hb1.setCell (Nat.le_refl _) _⟩
  · gi_wp2
    refine ⟨trivial, ?_⟩
    refine (callsIn_wide.2 (HR.out _)).mono ?_
    rintro e w3 ⟨rfl, rfl⟩
    by_cases hre : headS s = mkB resL
    · have HF := Lib.hid (rightL_res hre)
      rw [decide_eq_true hre] at hres
      clear hre
      gi_wp2
      refine ⟨_, res_cell_bool rfl _ _ T 4 false rfl (hB1.put 0 (.bool false)) Tryz.underlying4, ?_⟩
      exact ⟨by rw [HF.out], by rw [← HTE.out]; exact hb1.setCell (Nat.le_refl _) _⟩
    · rw [decide_eq_false hre] at hres
      have HRE := Lib.hid hre; clear hre
      have hB2 := hB1.alloc (.cells #[.int .i64 0] 3)
      have hN2 := Blk.new w2 3 #[.int .i64 0]
      have hb2 := hb1.alloc (by omega) (.cells #[.int .i64 0] 3)
      gi_wp2
      refine ⟨trivial, ?_⟩
      refine (callsIn_wide.2 (HQ.out _ _ _)).mono ?_
      rintro e w5 ⟨rfl, rfl⟩
      obtain ⟨w4, hw4⟩ : ∃ w4, w4 = w2.alloc (.cells #[.int .i64 0] 3) := ⟨_, rfl⟩
      obtain ⟨N, hN⟩ : ∃ N, N = w2.heap.size := ⟨_, rfl⟩
      have hz4 : w4.heap.size = N + 1 := by rw [hw4, hN]; simp
      rw [← hw4] at hB2 hN2 hb2 ⊢
      rw [← hN] at hN2 hlt ⊢
      clear hw4 hN c0 f0 hB1 hb1
      have hS := (Blk.new w4 9 #[.string s]).alloc (.cells #[.string ⟨#[47]⟩] 9) |>.alloc (.cells #[.int .i64 0] 3)
      have hP1 := (Blk.new (w4.alloc (.cells #[.string s] 9)) 9 #[.string ⟨#[47]⟩]).alloc (.cells #[.int .i64 0] 3)
      have hV := Blk.new ((w4.alloc (.cells #[.string s] 9)).alloc (.cells #[.string ⟨#[47]⟩] 9)) 3 #[.int .i64 0]
      have hB5 := ((hB2.alloc (.cells #[.string s] 9)).alloc (.cells #[.string ⟨#[47]⟩] 9)).alloc (.cells #[.int .i64 0] 3)
      have hN5 := ((hN2.alloc (.cells #[.string s] 9)).alloc (.cells #[.string ⟨#[47]⟩] 9)).alloc (.cells #[.int .i64 0] 3)
      have hb5 := ((hb2.alloc (by omega) (.cells #[.string s] 9)).alloc (by simp; omega) (.cells #[.string ⟨#[47]⟩] 9)).alloc (by simp; omega) (.cells #[.int .i64 0] 3)
      have hz5 : (((w4.alloc (.cells #[.string s] 9)).alloc (.cells #[.string ⟨#[47]⟩] 9)).alloc (.cells #[.int .i64 0] 3)).heap.size = N + 1 + 1 + 1 + 1 := by simp [hz4]
      simp only [World.size_alloc, hz4] at hS hP1 hV
      clear hB2 hN2 hb2
      generalize ((w4.alloc (.cells #[.string s] 9)).alloc (.cells #[.string ⟨#[47]⟩] 9)).alloc (.cells #[.int .i64 0] 3) = w5 at *
      rw [hz4]
      gi_wp2
      refine wpIn_rangeFunc_mine (Mine := fun k => k = N + 1) (fun r h => by omega) rfl (by omega) (gf := 162) (lb := #[.pointer (some ⟨N + 1 + 1, 0, none⟩), .pointer (some ⟨N + 1, 0, none⟩), .pointer (some ⟨N + 1 + 1 + 1, 0, none⟩)]) rfl trivial (enters_of Tryz.func162 (by kernel_rfl) rfl)
        (splitSeq_owns 8 (by omega) (N + 1 + 1) (N + 1) (N + 1 + 1 + 1) s w5 hs hP1 hS hV (by omega)) Kp3.trans (fun W l o o' hl _ _ _ => Kp3.turn (w := w5) (by omega) (by omega) (by omega) W l o o' hl) (Below.refl _ _) (fun _ => rfl)
        (fun pre W => RtI s T N pre W ∧ Below T w W) (fun c pre W => RtX s T c pre W ∧ Below T w W)
        (OwnM.and (rtI_own (by omega) (by omega)) (ownM_below (by rw [HTE.out]; exact Nat.le_refl _) (by omega) (fun r h => by omega)))
        (fun c => OwnM.and (rtX_own (by omega) c) (ownM_below (by rw [HTE.out]; exact Nat.le_refl _) (by omega) (fun r h => by omega)))
        ⟨⟨fun x hx => (by cases hx), by simp, hB5, hN5⟩, hb5⟩ ?a1 ?assign ?body ?done ?stop
      case assign =>
        intro l x W K hK
        gi_wp2
        exact hK
      case body =>
        rintro l pre x W ⟨⟨hall, hln, b0, b1⟩, hB⟩ hlt'
        have m0 := b1.cell 0
        have k0 := b1.frozen 0
        simp at m0
        have hxp := HP.out (W.setCell ⟨N, 0, none⟩ (.int .i64 ((pre.length : Nat) + 1))) x.1 (by have := x.2; omega)
        have b1' := b1.put 0 (.int .i64 ((pre.length : Nat) + 1))
        have b0' := b0.far (p := ⟨N, 0, none⟩) (show T ≠ N by omega) (.int .i64 ((pre.length : Nat) + 1))
        have hB' := hB.setCell (p := ⟨N, 0, none⟩) (show T ≤ N by omega) (.int .i64 ((pre.length : Nat) + 1))
        have n0 := b1'.cell 0
        have z0 := b0'.cell 0
        have y0 := b0'.frozen 0
        simp at n0 z0
        have hkp : Kp3 (N + 1 + 1) (N + 1) (N + 1 + 1 + 1) W (W.setCell ⟨N, 0, none⟩ (.int .i64 ((pre.length : Nat) + 1))) := ⟨by simp [World.setCell], fun k hk => Below.heap_setCell W _ _ k (by rcases hk with rfl | rfl | rfl <;> simp <;> omega)⟩
        have hko := KeepsOthers.setCell W ⟨N, 0, none⟩ (.int .i64 ((pre.length : Nat) + 1))
        have HXP := Lib.hid hxp; clear hxp
        have HH := Lib.hid (And.intro b0' (And.intro b1' (And.intro hB' (And.intro hkp hko)))); clear b0 b1 hB b0' b1' hB' hkp hko
        gi_wp2
        refine ⟨trivial, ?_⟩
        refine (CallsIn.inRound l (callsIn_wide.2 HXP.out)).mono ?_
        rintro e w6 ⟨rfl, rfl⟩
        generalize (W.setCell ⟨N, 0, none⟩ (.int .i64 ((pre.length : Nat) + 1))) = W1 at *
        cases hpx : partL x.1.data.toList with
        | false =>
          gi_wp2
          refine ⟨HH.out.2.2.2.2.trans (KeepsOthers.setCell _ _ _), ⟨⟨pre, x, rfl, .inl hpx, rfl⟩, HH.out.1.put 0 (.bool false)⟩, HH.out.2.2.1.setCell (Nat.le_refl _) _⟩
        | true =>
          by_cases h12 : (12 : Int) < (pre.length : Nat) + 1
          · gi_wp2
            refine ⟨HH.out.2.2.2.2.trans (KeepsOthers.setCell _ _ _), ⟨⟨pre, x, rfl, .inr (by simp; omega), rfl⟩, HH.out.1.put 0 (.bool false)⟩, HH.out.2.2.1.setCell (Nat.le_refl _) _⟩
          · gi_wp2
            refine ⟨HH.out.2.2.2.2, HH.out.2.2.2.1, ⟨fun y hy => ?_, by simp; omega, HH.out.1, ?_⟩, HH.out.2.2.1⟩
            · rcases List.mem_append.1 hy with h | h
              · exact hall y h
              · rw [List.mem_singleton] at h; rw [h]; exact hpx
            · have e : (((pre ++ [x]).length : Nat) : Int) = (pre.length : Nat) + 1 := by simp
              rw [e]; exact HH.out.2.1
      case done =>
        rintro D ys W hD hS' ⟨⟨hall, hln, b0, b1⟩, hB⟩ hK
        have HF := Lib.hid (rightL_good (s := s) (xs := ys.map (·.1)) hS' (by omega) HRE.out (fun x hx => by obtain ⟨y, hy, rfl⟩ := List.mem_map.1 hx; exact hall y hy) (by rw [List.length_map]; exact hln))
        have z0 := b0.cell 0
        have y0 := b0.frozen 0
        simp at z0
        have b0' := b0.put 0 (.bool true)
        have hB' := hB.setCell (p := ⟨T, 0, none⟩) (Nat.le_refl T) (.bool true)
        have hK' := (KeepsOthers.setCell W ⟨T, 0, none⟩ (.bool true)).same D _ hK rfl
        have HH := Lib.hid (And.intro b0' (And.intro hB' hK')); clear b0 b1 hB b0' hB' hK hK'
        gi_wp2
        generalize (W.setCell ⟨T, 0, none⟩ (.bool true)) = W1 at *
        refine ⟨by simp, .inl ⟨_, _, rfl, run_takeDeferred HH.out.2.2, ?_⟩⟩
        refine ⟨_, res_cell_bool rfl _ _ T 4 true rfl (HH.out.1.grown (grownBy_putObj' W1 D (.deferred none)) (fun e => by cases e; omega)) Tryz.underlying4, by rw [HF.out], ?_⟩
        have hb := HH.out.2.1
        rw [HTE.out] at hb
        exact hb.trans (belowK_b (w := w) (Nat.le_refl _) W1 D _ _ (by have := HTE.out; omega) HH.out.2.2 rfl rfl)
      case stop =>
        rintro D c pre W hD hSp ⟨⟨⟨pre', x, rfl, hbad, rfl⟩, b0⟩, hB⟩ hK
        obtain ⟨r', hr'⟩ := hSp
        have HF := Lib.hid (rightL_bad (s := s) (pre := pre'.map (·.1)) (x := x.1) (r := r') (by rw [hr', List.map_append]; rfl) (by
          rcases hbad with h | h
          · exact .inl h
          · right; simp at h ⊢; exact h))
        clear hr' hbad
        gi_wp2
        refine ⟨by simp, .inl ⟨_, _, rfl, run_takeDeferred hK, ?_⟩⟩
        refine ⟨_, res_cell_bool rfl _ _ T 4 false rfl (b0.grown (grownBy_putObj' W D (.deferred none)) (fun e => by cases e; omega)) Tryz.underlying4, by rw [HF.out], ?_⟩
        rw [HTE.out] at hB
        exact hB.trans (belowK_b (w := w) (Nat.le_refl _) W D _ _ (by have := HTE.out; omega) hK rfl rfl)
end Go.Proofs.YtjcbjocgachpjaaGreatDoor
