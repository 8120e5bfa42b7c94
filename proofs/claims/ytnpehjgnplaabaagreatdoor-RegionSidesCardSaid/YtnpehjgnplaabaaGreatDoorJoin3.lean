/- Several texts, joined for the limit of sixty files; each one opens with its own comment. -/
import Derived.Test.YtnpehjgnplaabaaGreatDoorJoin2
import Derived.Deep.AppendLies
import Derived.Laws.OwnMore
import Derived.Laws.IdiomStrings
import Derived.Test.YtnpehjgnplaabaaGreatDoorJoin1
/- Several texts, joined for the limit of sixty files; each one opens with its own comment. -/
/- The contract of name.part. -/
set_option linter.unusedVariables false
set_option linter.unusedSimpArgs false
namespace Go.Proofs.YtnpehjgnplaabaaGreatDoor
open Go Go.RowKit
open Sw
theorem all_step (s : ByteArray) (i : Nat) (h : i < s.size) (hp : (s.data.toList.take i).all okB = true) (hb : okB s[i] = true) : (s.data.toList.take (i + 1)).all okB = true := by
  rw [List.take_succ_eq_append_getElem (by simpa using h), List.all_append, hp]
  simp
  exact hb
theorem str_eq_iff (s : ByteArray) (l : List UInt8) : (s.toList == l) = decide (s.data.toList = l) := by
  rw [ByteArray.toList_eq]
  by_cases h : s.data.toList = l
  · rw [decide_eq_true h, h]; simp
  · rw [decide_eq_false h, beq_eq_false_iff_ne]; exact h
set_option maxRecDepth 100000 in
set_option maxHeartbeats 4000000 in
theorem part_any (w : World) (s : ByteArray) (hs : s.size ≤ 1000000) :
    Calls Tryz.prog 122 #[.string s] w fun e w' => e = .returned (.bool (partL s.data.toList)) ∧ w = w' := by
  have HL := Lib.hid (letters_any w s hs)
  obtain ⟨U, hU⟩ : ∃ U, partL s.data.toList = U := ⟨_, rfl⟩
  have HP := Lib.hid (show partL s.data.toList = (s.data.toList.all okB && decide (1 ≤ s.data.toList.length ∧ s.data.toList.length ≤ 60) && decide (s.data.toList ≠ [46]) && decide (s.data.toList ≠ [46, 46]) && utfD 0 0 0 s.data.toList) from rfl)
  rw [hU] at HP ⊢
  have HU := Lib.hid hU; clear hU
  go_enter Tryz.func122, Tryz.ntmps122
  go_wp2_with fail
  go_loopw [2, 3, 4, 7] (fun r _ _ iv wr => ∃ i : Nat, i ≤ s.size ∧ r = .bool false ∧ iv = .int .i64 i ∧ (s.data.toList.take i).all okB = true ∧ w = wr) (fun _ _ _ iv _ => s.size - (intOf iv).toNat)
  case atStart => exact ⟨0, Nat.zero_le _, rfl, rfl, by simp, rfl⟩
  case round =>
    obtain ⟨i, hi, rfl, rfl, hall, rfl⟩ := hrel
    by_cases hlt : i < s.size
    · have hok : okB s[i] = !(decide (s[i].toNat < 32) || decide (s[i].toNat = 127) || decide (s[i].toNat = 47) || decide (s[i].toNat = 92) || decide (s[i].toNat = 58)) := rfl
      have hstep := all_step s i hlt hall
      have hbad := fun h => partL_bad (l := s.data.toList) (i := i) (by simpa using hlt) h
      have hel : s.data.toList[i]'(by simpa using hlt) = s[i] := rfl
      rw [hel] at hbad
      generalize okB s[i] = ok at *
      have hc6 : s[i].toNat < 256 := s[i].toNat_lt
      generalize hx : s[i].toNat = x at *
      have hxI : ((s[i].toNat : Nat) : Int) = x := by rw [hx]
      clear hx hel
      have HOK := Lib.hid hok; clear hok
      have HST := Lib.hid hstep; clear hstep hall
      have HBD := Lib.hid hbad; clear hbad
      go_upto_region 5 with fail
      go_cut [13] from 14 to 31 (fun v wx => v = .bool (!ok) ∧ wx = w)
      case first =>
        by_cases c1 : x < 32
        · have HV := Lib.hid (show ok = false by rw [HOK.out, decide_eq_true c1]; rfl)
          have t1 : (x : Int) < 32 := by omega
          clear c1
          go_wp2_with fail
          go_meet
          case rel => exact ⟨by rw [HV.out]; first | done | rfl, rfl⟩
        · skip
          by_cases c2 : x = 127
          · have HV := Lib.hid (show ok = false by rw [HOK.out, decide_eq_false c1, decide_eq_true c2]; rfl)
            have t1 : ¬ (x : Int) < 32 := by omega
            have e1 : ((x : Int) == 127) = true := by rw [beq_iff_eq]; omega
            clear c1 c2
            go_wp2_with fail
            go_meet
            case rel => exact ⟨by rw [HV.out]; first | done | rfl, rfl⟩
          · skip
            by_cases c3 : x = 47
            · have HV := Lib.hid (show ok = false by rw [HOK.out, decide_eq_false c1, decide_eq_false c2, decide_eq_true c3]; rfl)
              have t1 : ¬ (x : Int) < 32 := by omega
              have e1 : ((x : Int) == 127) = false := by rw [beq_eq_false_iff_ne]; omega
              have e2 : ((x : Int) == 47) = true := by rw [beq_iff_eq]; omega
              clear c1 c2 c3
              go_wp2_with fail
              go_meet
              case rel => exact ⟨by rw [HV.out]; first | done | rfl, rfl⟩
            · skip
              by_cases c4 : x = 92
              · have HV := Lib.hid (show ok = false by rw [HOK.out, decide_eq_false c1, decide_eq_false c2, decide_eq_false c3, decide_eq_true c4]; rfl)
                have t1 : ¬ (x : Int) < 32 := by omega
                have e1 : ((x : Int) == 127) = false := by rw [beq_eq_false_iff_ne]; omega
                have e2 : ((x : Int) == 47) = false := by rw [beq_eq_false_iff_ne]; omega
                have e3 : ((x : Int) == 92) = true := by rw [beq_iff_eq]; omega
                clear c1 c2 c3 c4
                go_wp2_with fail
                go_meet
                case rel => exact ⟨by rw [HV.out]; first | done | rfl, rfl⟩
              · skip
                by_cases c5 : x = 58
                · have HV := Lib.hid (show ok = false by rw [HOK.out, decide_eq_false c1, decide_eq_false c2, decide_eq_false c3, decide_eq_false c4, decide_eq_true c5]; rfl)
                  have t1 : ¬ (x : Int) < 32 := by omega
                  have e1 : ((x : Int) == 127) = false := by rw [beq_eq_false_iff_ne]; omega
                  have e2 : ((x : Int) == 47) = false := by rw [beq_eq_false_iff_ne]; omega
                  have e3 : ((x : Int) == 92) = false := by rw [beq_eq_false_iff_ne]; omega
                  have e4 : ((x : Int) == 58) = true := by rw [beq_iff_eq]; omega
                  clear c1 c2 c3 c4 c5
                  go_wp2_with fail
                  go_meet
                  case rel => exact ⟨by rw [HV.out]; first | done | rfl, rfl⟩
                · have HV := Lib.hid (show ok = true by rw [HOK.out, decide_eq_false c1, decide_eq_false c2, decide_eq_false c3, decide_eq_false c4, decide_eq_false c5]; rfl)
                  have t1 : ¬ (x : Int) < 32 := by omega
                  have e1 : ((x : Int) == 127) = false := by rw [beq_eq_false_iff_ne]; omega
                  have e2 : ((x : Int) == 47) = false := by rw [beq_eq_false_iff_ne]; omega
                  have e3 : ((x : Int) == 92) = false := by rw [beq_eq_false_iff_ne]; omega
                  have e4 : ((x : Int) == 58) = false := by rw [beq_eq_false_iff_ne]; omega
                  clear c1 c2 c3 c4 c5
                  go_wp2_with fail
                  go_meet
                  case rel => exact ⟨by rw [HV.out]; first | done | rfl, rfl⟩
      case rest =>
        obtain ⟨rfl, rfl⟩ := hcut
        clear HOK
        cases ok with
        | false =>
          have HF := Lib.hid (show U = false by rw [← HU.out]; exact HBD.out rfl)
          go_wp2_with fail
          go_ret
          exact ⟨by rw [HF.out]; first | done | rfl, rfl⟩
        | true =>
          have HN := Lib.hid (HST.out rfl)
          go_wp2_with fail
          go_roundw
          case rel => exact ⟨i + 1, by omega, rfl, by go_num, HN.out, by simp⟩
          case measure => simp [intOf]; omega
    · obtain rfl : i = s.size := by omega
      rw [List.take_of_length_le (by simp)] at hall
      have hP := HP.out
      have hlen : s.data.toList.length = s.size := by simp
      have hs1 := str_eq_iff s [46]
      have hs2 := str_eq_iff s [46, 46]
      rw [hall, hlen, Bool.true_and] at hP
      clear hall HP HU hlen hlt
      generalize s.data.toList = L at *
      generalize utfD 0 0 0 L = V at *
      have HP := Lib.hid hP; clear hP
      by_cases c1 : (1 : Int) ≤ s.size
      · by_cases c2 : (s.size : Int) ≤ 60
        · by_cases c3 : L = [46]
          · have hb : (s.toList == [46]) = true := by rw [hs1, decide_eq_true c3]
            have HF := Lib.hid (show U = false by rw [HP.out, decide_eq_true (show 1 ≤ s.size ∧ s.size ≤ 60 by omega), decide_eq_false (fun h => h c3)]; rfl)
            clear hs1 hs2 c3
            go_wp2_with fail
            go_ret
            exact ⟨by rw [HF.out]; first | done | rfl, rfl⟩
          · have hb : (s.toList == [46]) = false := by rw [hs1, decide_eq_false c3]
            by_cases c4 : L = [46, 46]
            · have hb2 : (s.toList == [46, 46]) = true := by rw [hs2, decide_eq_true c4]
              have HF := Lib.hid (show U = false by rw [HP.out, decide_eq_true (show 1 ≤ s.size ∧ s.size ≤ 60 by omega), decide_eq_true c3, decide_eq_false (fun h => h c4)]; rfl)
              clear hs1 hs2 c3 c4
              go_wp2_with fail
              go_ret
              exact ⟨by rw [HF.out]; first | done | rfl, rfl⟩
            · have hb2 : (s.toList == [46, 46]) = false := by rw [hs2, decide_eq_false c4]
              have HF := Lib.hid (show U = V by rw [HP.out, decide_eq_true (show 1 ≤ s.size ∧ s.size ≤ 60 by omega), decide_eq_true c3, decide_eq_true c4]; rfl)
              clear hs1 hs2 c3 c4
              go_wp2_with fail
              refine HL.out.mono ?_
              rintro e w1 ⟨rfl, rfl⟩
              go_wp2_with fail
              go_ret
              exact ⟨by rw [HF.out]; first | done | rfl, rfl⟩
        · have HF := Lib.hid (show U = false by rw [HP.out, decide_eq_false (show ¬ (1 ≤ s.size ∧ s.size ≤ 60) by omega)]; rfl)
          clear hs1 hs2
          go_wp2_with fail
          go_ret
          exact ⟨by rw [HF.out]; first | done | rfl, rfl⟩
      · have HF := Lib.hid (show U = false by rw [HP.out, decide_eq_false (show ¬ (1 ≤ s.size ∧ s.size ≤ 60) by omega)]; rfl)
        clear hs1 hs2
        go_wp2_with fail
        go_ret
        exact ⟨by rw [HF.out]; first | done | rfl, rfl⟩
end Go.Proofs.YtnpehjgnplaabaaGreatDoor
/- Slices that the call itself makes by append, over any program. -/
set_option linter.unusedVariables false
set_option linter.unusedSimpArgs false
namespace Sw
open Go Go.RowKit
/-- 'append(l, x)' onto a slice of the call's own, where x lies in a block of its own of one element -/
theorem wpList_app {P : Program} {w : World} {ops : Array Oper} {rest : List Oper} {o : Oper} {a : Act} {Q : Exit → Act → World → Prop} (hgd : o.guard = none) (s x : Operand) (t : TypeId)
    (ho : o.op = .call { callee := .builtin .append, args := #[s, x], argTypes := #[t, t] })
    (base : Nat) (e : TypeId) (z : Value) (size bytes : Nat) (ht : P.underlying t = some (.slice e)) (hi : (P.info? e).map (fun i => (i.zero, i.size, i.bytes)) = some (some z, size, bytes))
    (hzs : z.cells.size = size) (hsz : 0 < size)
    (v : Value) (n : Nat) (xs : List Value) (hs : a.eval s = v) (hown : w.ownsRow base e size v n xs)
    (B : Nat) (c : Nat) (news : Array Value) (te : TypeId) (hx : a.eval x = .slice (some ⟨B, 0, none⟩) 1 c) (hB : Blk w B te news) (hl : news.size = size) (h1 : ∀ u ∈ news.toList, u.oneCell' = true)
    (hn : n + 1 ≤ 1000000) (hby : bytes ≤ 1000000) (hbase : base ≤ w.heap.size) (H : Nat) (hH : w.heap.size = H)
    (h : ∀ g cap w', w'.ownsRow base e size (.slice (some ⟨g, 0, none⟩) (n + 1) cap) (n + 1) (xs ++ news.toList) → w.grownBy w' v.ownBlock → (v.ownBlock = some g ∨ g = H) → g < w'.heap.size → wpList P ops Q rest (a.put o.dst (.slice (some ⟨g, 0, none⟩) (n + 1) cap)) w') :
    wpList P ops Q (o :: rest) a w := by
  obtain ⟨i, hi, hz, hs2, hb⟩ := info_parts hi
  refine wpList_append_lies w hgd s x t ho base e i z size bytes ht hi hz hs2 hb hzs hsz v n xs hs hown ⟨B, 0, none⟩ 1 c news.toList hx (by simpa using hl) (World.news_of_block hB) h1 (by omega) (by unfold maxLen; omega) ?_ hbase H hH h
  calc (n + 1) * bytes ≤ 1000000 * 1000000 := Nat.mul_le_mul hn hby
    _ ≤ 140737488355328 := by decide
theorem own_ne {w : World} {base : Nat} {e : TypeId} {size : Nat} {v : Value} {n : Nat} {xs : List Value} (h : w.ownsRow base e size v n xs) (g : Nat) (hg : w.heap.size ≤ g) : v.ownBlock ≠ some g := by
  intro hv
  have := (h.lt g hv).2
  omega
theorem own_kept {w w' : World} {base : Nat} {e : TypeId} {size : Nat} {v : Value} {n : Nat} {xs : List Value} (h : w.ownsRow base e size v n xs) (hb : Below w.heap.size w w') : w'.ownsRow base e size v n xs :=
  h.kept (grown_below (row := none) hb) (by
    rcases v.ownBlock.eq_none_or_eq_some with h | ⟨g, h⟩
    · exact .inl h
    · right; rw [h]; simp)
theorem own_drew {w : World} {base : Nat} {e : TypeId} {size : Nat} {v : Value} {n : Nat} {xs : List Value} (h : w.ownsRow base e size v n xs) : w.drew.ownsRow base e size v n xs := h
/-- bytes that lie in a block -/
def BytesAt (w : World) (g : Nat) (l : List UInt8) : Prop := ∀ j (hj : j < l.length), w.cell? ⟨g, j, none⟩ = some (.int .u8 (l[j].toNat : Int)) ∧ w.frozen? ⟨g, j, none⟩ = false
theorem BytesAt.put {w : World} {g : Nat} {l : List UInt8} (h : BytesAt w g l) (k : Nat) (b : UInt8) (hk : k < l.length) : BytesAt (w.setCell ⟨g, k, none⟩ (.int .u8 (b.toNat : Int))) g (l.set k b) := by
  intro j hj
  rw [List.length_set] at hj
  obtain ⟨h1, h2⟩ := h j hj
  constructor
  · rw [List.getElem_set]
    by_cases hjk : k = j
    · subst hjk
      rw [if_pos rfl]
      exact World.cell?_setCell_same _ _ _ h1
    · rw [if_neg hjk]
      exact (World.cell?_setCell_other w _ _ _ (by intro e; exact hjk (congrArg Addr.off e))).trans h1
  · have hb : (w.setCell ⟨g, k, none⟩ (.int .u8 (b.toNat : Int))).frozen? ⟨g, j, none⟩ = w.frozen? ⟨g, j, none⟩ := by
      unfold World.frozen? World.setCell
      simp only [Array.getElem?_modify]
      by_cases hg : w.heap[g]? = none
      · simp [hg]
      · obtain ⟨o, ho⟩ := Option.ne_none_iff_exists'.1 hg
        cases o <;> simp [ho]
    rw [hb]; exact h2
theorem BytesAt.conv {P : Program} {w : World} {g : Nat} {l : List UInt8} (h : BytesAt w g l) (src dst e : TypeId) (hs : P.underlying src = some (.slice e)) (he : P.underlying e = some (.int .u8)) (hd : P.underlying dst = some .string) (cap : Nat) :
    (convert src dst (.slice (some ⟨g, 0, none⟩) l.length cap)).run P w = .ok (.string ⟨l.toArray⟩) w :=
  run_convert_bytes_back w src dst e ⟨g, 0, none⟩ cap l hs he hd (fun j hj => by
    rw [show ((⟨g, 0, none⟩ : Addr).add j) = ⟨g, j, none⟩ by unfold Addr.add; split <;> simp_all]
    exact (h j hj).1)
/-- two slices that the call grows side by side -/
structure Two (w : World) (base : Nat) (e : TypeId) (size : Nat) (v1 : Value) (n1 : Nat) (xs1 : List Value) (v2 : Value) (n2 : Nat) (xs2 : List Value) : Prop where
  a : w.ownsRow base e size v1 n1 xs1
  b : w.ownsRow base e size v2 n2 xs2
  ne : v1.ownBlock = none ∨ v1.ownBlock ≠ v2.ownBlock
section
variable {w w' w0 : World} {base : Nat} {e : TypeId} {size : Nat} {v1 v2 : Value} {n1 n2 : Nat} {xs1 xs2 : List Value}
theorem Two.symm (h : Two w base e size v1 n1 xs1 v2 n2 xs2) : Two w base e size v2 n2 xs2 v1 n1 xs1 :=
  ⟨h.b, h.a, by
    rcases h.ne with h | h
    · rcases Option.eq_none_or_eq_some v2.ownBlock with k | ⟨g, k⟩
      · exact .inl k
      · right; rw [k, h]; simp
    · exact .inr fun k => h k.symm⟩
theorem Two.kept (h : Two w base e size v1 n1 xs1 v2 n2 xs2) (hb : Below w.heap.size w w') : Two w' base e size v1 n1 xs1 v2 n2 xs2 := ⟨own_kept h.a hb, own_kept h.b hb, h.ne⟩
theorem Two.left (h : Two w base e size v1 n1 xs1 v2 n2 xs2) {g n cap : Nat} {xs : List Value} (ho : w'.ownsRow base e size (.slice (some ⟨g, 0, none⟩) n cap) n xs) (hg : w.grownBy w' v1.ownBlock) (hat : v1.ownBlock = some g ∨ g = w.heap.size) :
    Two w' base e size (.slice (some ⟨g, 0, none⟩) n cap) n xs v2 n2 xs2 :=
  ⟨ho, h.b.kept hg (by
    rcases h.symm.ne with k | k
    · exact .inl k
    · exact .inr k), by
    right
    show some g ≠ v2.ownBlock
    rcases hat with k | k
    · rcases h.ne with k2 | k2
      · rw [k] at k2; cases k2
      · rw [← k]; exact k2
    · intro k2
      exact own_ne h.b g (by omega) k2.symm⟩
theorem Two.right (h : Two w base e size v1 n1 xs1 v2 n2 xs2) {g n cap : Nat} {xs : List Value} (ho : w'.ownsRow base e size (.slice (some ⟨g, 0, none⟩) n cap) n xs) (hg : w.grownBy w' v2.ownBlock) (hat : v2.ownBlock = some g ∨ g = w.heap.size) :
    Two w' base e size v1 n1 xs1 (.slice (some ⟨g, 0, none⟩) n cap) n xs := (h.symm.left ho hg hat).symm
theorem own_below {B : Nat} {a w1 : World} (h : w.ownsRow base e size v1 n1 xs1) (hb : Below B a w1) (hg : w1.grownBy w' v1.ownBlock) (hB : B ≤ base) (hs : B ≤ w1.heap.size) : Below B a w' :=
  hb.grown hg hs (fun k hk => Nat.le_trans hB (h.lt k hk).1)
end
end Sw
/- Contracts of the reference's utf8, Part and Split. -/
set_option linter.unusedVariables false
set_option linter.unusedSimpArgs false
namespace Go.Proofs.YtnpehjgnplaabaaGreatDoor
open Go Go.RowKit
open Sw
end Go.Proofs.YtnpehjgnplaabaaGreatDoor
