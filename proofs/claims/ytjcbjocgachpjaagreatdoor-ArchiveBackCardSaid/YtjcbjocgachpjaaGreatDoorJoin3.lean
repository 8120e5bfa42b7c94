/- Several texts, joined for the limit of sixty files; each one opens with its own comment. -/
import Derived.Deep.AppendLies
import Derived.Laws.OwnMore
import Derived.Laws.IdiomStrings
import Derived.Test.YtjcbjocgachpjaaGreatDoorJoin1
import Derived.Test.YtjcbjocgachpjaaGreatDoorJoin2
import Derived.RangeFuncFrom
/- Slices that the call itself makes by append, over any program. -/
set_option linter.unusedVariables false
set_option linter.unusedSimpArgs false
namespace Sw
open Go Go.RowKit
/-- 'append(l, x)' onto a slice of the call's own, where x lies in a block of its own of one element -/
theorem wpList_app {P : Program} {w : World} {ops : Array Oper} {rest : List Oper} {o : Oper} {a : Act} {Q : Exit → Act → World → Prop} (hgd : o.guard = none) (s x : Operand) (t : TypeId)
    (ho : o.op = .call { callee := .builtin .append, args := #[s, x], argTypes := #[t, t] })
    (base : Nat) (e : TypeId) (z : Value) (size bytes : Nat) (ht : P.underlying t = some (.slice e)) (hi : (P.info? e).map (fun i => (i.zero, i.size, i.bytes)) = some (some z, size, bytes))
    (hzs : z.cells.size = size) (hsz : 0 < size)
    (v : Value) (n : Nat) (xs : List Value) (hs : a.eval s = v) (hown : w.ownsRow base e size v n xs)
    (B : Nat) (c : Nat) (news : Array Value) (te : TypeId) (hx : a.eval x = .slice (some ⟨B, 0, none⟩) 1 c) (hB : Blk w B te news) (hl : news.size = size) (h1 : ∀ u ∈ news.toList, u.oneCell' = true)
    (hn : n + 1 ≤ 1000000) (hby : bytes ≤ 1000000) (hbase : base ≤ w.heap.size) (H : Nat) (hH : w.heap.size = H)
    (h : ∀ g cap w', w'.ownsRow base e size (.slice (some ⟨g, 0, none⟩) (n + 1) cap) (n + 1) (xs ++ news.toList) → w.grownBy w' v.ownBlock → (v.ownBlock = some g ∨ g = H) → g < w'.heap.size → wpList P ops Q rest (a.put o.dst (.slice (some ⟨g, 0, none⟩) (n + 1) cap)) w') :
    wpList P ops Q (o :: rest) a w := by
  obtain ⟨i, hi, hz, hs2, hb⟩ := info_parts hi
  refine wpList_append_lies w hgd s x t ho base e i z size bytes ht hi hz hs2 hb hzs hsz v n xs hs hown ⟨B, 0, none⟩ 1 c news.toList hx (by simpa using hl) (World.news_of_block hB) h1 (by omega) (by unfold maxLen; omega) ?_ hbase H hH h
  calc (n + 1) * bytes ≤ 1000000 * 1000000 := Nat.mul_le_mul hn hby
    _ ≤ 140737488355328 := by decide
theorem own_ne {w : World} {base : Nat} {e : TypeId} {size : Nat} {v : Value} {n : Nat} {xs : List Value} (h : w.ownsRow base e size v n xs) (g : Nat) (hg : w.heap.size ≤ g) : v.ownBlock ≠ some g := by
  intro hv
  have := (h.lt g hv).2
  omega
theorem own_kept {w w' : World} {base : Nat} {e : TypeId} {size : Nat} {v : Value} {n : Nat} {xs : List Value} (h : w.ownsRow base e size v n xs) (hb : Below w.heap.size w w') : w'.ownsRow base e size v n xs :=
  h.kept (grown_below (row := none) hb) (by
    rcases v.ownBlock.eq_none_or_eq_some with h | ⟨g, h⟩
    · exact .inl h
    · right; rw [h]; simp)
/-- bytes that lie in a block -/
def BytesAt (w : World) (g : Nat) (l : List UInt8) : Prop := ∀ j (hj : j < l.length), w.cell? ⟨g, j, none⟩ = some (.int .u8 (l[j].toNat : Int)) ∧ w.frozen? ⟨g, j, none⟩ = false
theorem BytesAt.put {w : World} {g : Nat} {l : List UInt8} (h : BytesAt w g l) (k : Nat) (b : UInt8) (hk : k < l.length) : BytesAt (w.setCell ⟨g, k, none⟩ (.int .u8 (b.toNat : Int))) g (l.set k b) := by
  intro j hj
  rw [List.length_set] at hj
  obtain ⟨h1, h2⟩ := h j hj
  constructor
  · rw [List.getElem_set]
    by_cases hjk : k = j
    · subst hjk
      rw [if_pos rfl]
      exact World.cell?_setCell_same _ _ _ h1
    · rw [if_neg hjk]
      exact (World.cell?_setCell_other w _ _ _ (by intro e; exact hjk (congrArg Addr.off e))).trans h1
  · have hb : (w.setCell ⟨g, k, none⟩ (.int .u8 (b.toNat : Int))).frozen? ⟨g, j, none⟩ = w.frozen? ⟨g, j, none⟩ := by
      unfold World.frozen? World.setCell
      simp only [Array.getElem?_modify]
      by_cases hg : w.heap[g]? = none
      · simp [hg]
      · obtain ⟨o, ho⟩ := Option.ne_none_iff_exists'.1 hg
        cases o <;> simp [ho]
    rw [hb]; exact h2
theorem BytesAt.conv {P : Program} {w : World} {g : Nat} {l : List UInt8} (h : BytesAt w g l) (src dst e : TypeId) (hs : P.underlying src = some (.slice e)) (he : P.underlying e = some (.int .u8)) (hd : P.underlying dst = some .string) (cap : Nat) :
    (convert src dst (.slice (some ⟨g, 0, none⟩) l.length cap)).run P w = .ok (.string ⟨l.toArray⟩) w :=
  run_convert_bytes_back w src dst e ⟨g, 0, none⟩ cap l hs he hd (fun j hj => by
    rw [show ((⟨g, 0, none⟩ : Addr).add j) = ⟨g, j, none⟩ by unfold Addr.add; split <;> simp_all]
    exact (h j hj).1)
theorem run_bytes {P : Program} (w : World) (src dst e : TypeId) (s : ByteArray) (hs : P.underlying src = some .string) (hd : P.underlying dst = some (.slice e)) (he : P.underlying e = some (.int .u8)) :
    ∃ cap w', (convert src dst (.string s)).run P w = .ok (.slice (some ⟨w.heap.size, 0, none⟩) s.size cap) w' ∧ Below w.heap.size w w' ∧ w'.heap.size = w.heap.size + 1 ∧ BytesAt w' w.heap.size s.data.toList := by
  refine ⟨_, _, run_bytes_of_string w src dst e s hs hd he, (Below.refl _ _).drew.alloc (Nat.le_refl _) _, by simp, ?_⟩
  intro j hj
  have hj' : j < s.data.size := by simpa using hj
  have hc := World.cell?_alloc_mark w.drew (bytesRow s (grownCap w s.size 0 e)) e ((bytesRow s (grownCap w s.size 0 e)).size, (bytesRow s (grownCap w s.size 0 e)).size + 1) j
  have hf := World.frozen?_alloc_mark w.drew (bytesRow s (grownCap w s.size 0 e)) e (bytesRow s (grownCap w s.size 0 e)).size ((bytesRow s (grownCap w s.size 0 e)).size + 1) j
  rw [bytesRow_at s _ j hj'] at hc
  constructor
  · simpa using hc
  · refine hf.trans ?_
    have : j < (bytesRow s (grownCap w s.size 0 e)).size := by
      unfold bytesRow
      simp only [Array.size_append, Array.size_map]
      omega
    simp; omega
/-- two slices that the call grows side by side -/
structure Two (w : World) (base : Nat) (e : TypeId) (size : Nat) (v1 : Value) (n1 : Nat) (xs1 : List Value) (v2 : Value) (n2 : Nat) (xs2 : List Value) : Prop where
  a : w.ownsRow base e size v1 n1 xs1
  b : w.ownsRow base e size v2 n2 xs2
  ne : v1.ownBlock = none ∨ v1.ownBlock ≠ v2.ownBlock
section
variable {w w' w0 : World} {base : Nat} {e : TypeId} {size : Nat} {v1 v2 : Value} {n1 n2 : Nat} {xs1 xs2 : List Value}
theorem Two.symm (h : Two w base e size v1 n1 xs1 v2 n2 xs2) : Two w base e size v2 n2 xs2 v1 n1 xs1 :=
  ⟨h.b, h.a, by
    rcases h.ne with h | h
    · rcases Option.eq_none_or_eq_some v2.ownBlock with k | ⟨g, k⟩
      · exact .inl k
      · right; rw [k, h]; simp
    · exact .inr fun k => h k.symm⟩
theorem Two.kept (h : Two w base e size v1 n1 xs1 v2 n2 xs2) (hb : Below w.heap.size w w') : Two w' base e size v1 n1 xs1 v2 n2 xs2 := ⟨own_kept h.a hb, own_kept h.b hb, h.ne⟩
theorem Two.left (h : Two w base e size v1 n1 xs1 v2 n2 xs2) {g n cap : Nat} {xs : List Value} (ho : w'.ownsRow base e size (.slice (some ⟨g, 0, none⟩) n cap) n xs) (hg : w.grownBy w' v1.ownBlock) (hat : v1.ownBlock = some g ∨ g = w.heap.size) :
    Two w' base e size (.slice (some ⟨g, 0, none⟩) n cap) n xs v2 n2 xs2 :=
  ⟨ho, h.b.kept hg (by
    rcases h.symm.ne with k | k
    · exact .inl k
    · exact .inr k), by
    right
    show some g ≠ v2.ownBlock
    rcases hat with k | k
    · rcases h.ne with k2 | k2
      · rw [k] at k2; cases k2
      · rw [← k]; exact k2
    · intro k2
      exact own_ne h.b g (by omega) k2.symm⟩
theorem Two.right (h : Two w base e size v1 n1 xs1 v2 n2 xs2) {g n cap : Nat} {xs : List Value} (ho : w'.ownsRow base e size (.slice (some ⟨g, 0, none⟩) n cap) n xs) (hg : w.grownBy w' v2.ownBlock) (hat : v2.ownBlock = some g ∨ g = w.heap.size) :
    Two w' base e size v1 n1 xs1 (.slice (some ⟨g, 0, none⟩) n cap) n xs := (h.symm.left ho hg hat).symm
theorem own_below {B : Nat} {a w1 : World} (h : w.ownsRow base e size v1 n1 xs1) (hb : Below B a w1) (hg : w1.grownBy w' v1.ownBlock) (hB : B ≤ base) (hs : B ≤ w1.heap.size) : Below B a w' :=
  hb.grown hg hs (fun k hk => Nat.le_trans hB (h.lt k hk).1)
end
end Sw
/- Contracts of the reference's utf8, Part and Split. -/
set_option linter.unusedVariables false
set_option linter.unusedSimpArgs false
namespace Go.Proofs.YtjcbjocgachpjaaGreatDoor
open Go Go.RowKit
open Sw
set_option maxRecDepth 100000 in
set_option maxHeartbeats 4000000 in
theorem refUtf_any (w : World) (s : ByteArray) (hs : s.size ≤ 1000000) :
    Calls Tryz.prog 139 #[.string s] w fun e w' => e = .returned (.bool (utfD 0 0 0 s.data.toList)) ∧ w = w' := by
  obtain ⟨U, hU⟩ : ∃ U, utfD 0 0 0 s.data.toList = U := ⟨_, rfl⟩
  rw [hU]
  go_enter Tryz.func139, Tryz.ntmps139
  go_wp2_with fail
  go_loopw [2, 3, 4, 5, 6, 7, 8, 9] (fun r iv _ _ _ _ _ _ wr => ∃ i : Nat, i ≤ s.size ∧ r = .bool false ∧ iv = .int .i64 i ∧ utfD 0 0 0 (s.data.toList.drop i) = U ∧ w = wr) (fun _ iv _ _ _ _ _ _ _ => s.size - (intOf iv).toNat)
  case atStart => exact ⟨0, Nat.zero_le _, rfl, rfl, hU, rfl⟩
  case round =>
    obtain ⟨i, hi, rfl, rfl, hu, rfl⟩ := hrel
    by_cases hlt : i < s.size
    · rw [utfD_at0 s 0 0 i hlt] at hu
      have HU := Lib.hid hu; clear hu hU
      have hc6 : s[i].toNat < 256 := s[i].toNat_lt
      generalize hc : s[i].toNat = c at *
      have hcI : ((s[i].toNat : Nat) : Int) = c := by rw [hc]
      clear hc
      go_upto_if 19 with fail
      go_cut [5, 6, 7] from 18 to 45 (fun n lo hi wx => n = .int .i64 (uN c : Nat) ∧ lo = .int .i64 (uLo c : Nat) ∧ hi = .int .i64 (uHi c : Nat) ∧ wx = w)
      case first =>
        have cases11 : (0 ≤ c ∧ c ≤ 127) ∨ (128 ≤ c ∧ c ≤ 193) ∨ (194 ≤ c ∧ c ≤ 223) ∨ (224 ≤ c ∧ c ≤ 224) ∨ (225 ≤ c ∧ c ≤ 236) ∨ (237 ≤ c ∧ c ≤ 237) ∨ (238 ≤ c ∧ c ≤ 239) ∨ (240 ≤ c ∧ c ≤ 240) ∨ (241 ≤ c ∧ c ≤ 243) ∨ (244 ≤ c ∧ c ≤ 244) ∨ (245 ≤ c ∧ c ≤ 255) := by omega
        rcases cases11 with ⟨r0, r1⟩ | ⟨r0, r1⟩ | ⟨r0, r1⟩ | ⟨r0, r1⟩ | ⟨r0, r1⟩ | ⟨r0, r1⟩ | ⟨r0, r1⟩ | ⟨r0, r1⟩ | ⟨r0, r1⟩ | ⟨r0, r1⟩ | ⟨r0, r1⟩
        · have q : uN c = 1 ∧ uLo c = 128 ∧ uHi c = 191 := by
            unfold uN uLo uHi
            refine ⟨?_, ?_, ?_⟩ <;> (repeat' split) <;> omega
          have t1 : (c : Int) < (128 : Int) := by omega
          have t2 : ¬ (194 : Int) ≤ (c : Int) := by omega
          have t3 : (c : Int) ≤ (223 : Int) := by omega
          have t4 : ¬ (224 : Int) ≤ (c : Int) := by omega
          have t5 : (c : Int) ≤ (239 : Int) := by omega
          have t6 : ¬ (240 : Int) ≤ (c : Int) := by omega
          have t7 : (c : Int) ≤ (244 : Int) := by omega
          have e224 : ((c : Int) == 224) = false := by rw [beq_eq_false_iff_ne]; omega
          have e237 : ((c : Int) == 237) = false := by rw [beq_eq_false_iff_ne]; omega
          have e240 : ((c : Int) == 240) = false := by rw [beq_eq_false_iff_ne]; omega
          have e244 : ((c : Int) == 244) = false := by rw [beq_eq_false_iff_ne]; omega
          have HQ := Lib.hid q; clear q r0 r1
          go_wp2_with fail
          go_meet
          case rel => exact ⟨by rw [HQ.out.1]; rfl, by rw [HQ.out.2.1]; rfl, by rw [HQ.out.2.2]; rfl, rfl⟩
        · have q : uN c = 0 ∧ uLo c = 128 ∧ uHi c = 191 := by
            unfold uN uLo uHi
            refine ⟨?_, ?_, ?_⟩ <;> (repeat' split) <;> omega
          have t1 : ¬ (c : Int) < (128 : Int) := by omega
          have t2 : ¬ (194 : Int) ≤ (c : Int) := by omega
          have t3 : (c : Int) ≤ (223 : Int) := by omega
          have t4 : ¬ (224 : Int) ≤ (c : Int) := by omega
          have t5 : (c : Int) ≤ (239 : Int) := by omega
          have t6 : ¬ (240 : Int) ≤ (c : Int) := by omega
          have t7 : (c : Int) ≤ (244 : Int) := by omega
          have e224 : ((c : Int) == 224) = false := by rw [beq_eq_false_iff_ne]; omega
          have e237 : ((c : Int) == 237) = false := by rw [beq_eq_false_iff_ne]; omega
          have e240 : ((c : Int) == 240) = false := by rw [beq_eq_false_iff_ne]; omega
          have e244 : ((c : Int) == 244) = false := by rw [beq_eq_false_iff_ne]; omega
          have HQ := Lib.hid q; clear q r0 r1
          go_wp2_with fail
          go_meet
          case rel => exact ⟨by rw [HQ.out.1]; rfl, by rw [HQ.out.2.1]; rfl, by rw [HQ.out.2.2]; rfl, rfl⟩
        · have q : uN c = 2 ∧ uLo c = 128 ∧ uHi c = 191 := by
            unfold uN uLo uHi
            refine ⟨?_, ?_, ?_⟩ <;> (repeat' split) <;> omega
          have t1 : ¬ (c : Int) < (128 : Int) := by omega
          have t2 : (194 : Int) ≤ (c : Int) := by omega
          have t3 : (c : Int) ≤ (223 : Int) := by omega
          have t4 : ¬ (224 : Int) ≤ (c : Int) := by omega
          have t5 : (c : Int) ≤ (239 : Int) := by omega
          have t6 : ¬ (240 : Int) ≤ (c : Int) := by omega
          have t7 : (c : Int) ≤ (244 : Int) := by omega
          have e224 : ((c : Int) == 224) = false := by rw [beq_eq_false_iff_ne]; omega
          have e237 : ((c : Int) == 237) = false := by rw [beq_eq_false_iff_ne]; omega
          have e240 : ((c : Int) == 240) = false := by rw [beq_eq_false_iff_ne]; omega
          have e244 : ((c : Int) == 244) = false := by rw [beq_eq_false_iff_ne]; omega
          have HQ := Lib.hid q; clear q r0 r1
          go_wp2_with fail
          go_meet
          case rel => exact ⟨by rw [HQ.out.1]; rfl, by rw [HQ.out.2.1]; rfl, by rw [HQ.out.2.2]; rfl, rfl⟩
        · have q : uN c = 3 ∧ uLo c = 160 ∧ uHi c = 191 := by
            unfold uN uLo uHi
            refine ⟨?_, ?_, ?_⟩ <;> (repeat' split) <;> omega
          have t1 : ¬ (c : Int) < (128 : Int) := by omega
          have t2 : (194 : Int) ≤ (c : Int) := by omega
          have t3 : ¬ (c : Int) ≤ (223 : Int) := by omega
          have t4 : (224 : Int) ≤ (c : Int) := by omega
          have t5 : (c : Int) ≤ (239 : Int) := by omega
          have t6 : ¬ (240 : Int) ≤ (c : Int) := by omega
          have t7 : (c : Int) ≤ (244 : Int) := by omega
          have e224 : ((c : Int) == 224) = true := by rw [beq_iff_eq]; omega
          have e237 : ((c : Int) == 237) = false := by rw [beq_eq_false_iff_ne]; omega
          have e240 : ((c : Int) == 240) = false := by rw [beq_eq_false_iff_ne]; omega
          have e244 : ((c : Int) == 244) = false := by rw [beq_eq_false_iff_ne]; omega
          have HQ := Lib.hid q; clear q r0 r1
          go_wp2_with fail
          go_meet
          case rel => exact ⟨by rw [HQ.out.1]; rfl, by rw [HQ.out.2.1]; rfl, by rw [HQ.out.2.2]; rfl, rfl⟩
        · have q : uN c = 3 ∧ uLo c = 128 ∧ uHi c = 191 := by
            unfold uN uLo uHi
            refine ⟨?_, ?_, ?_⟩ <;> (repeat' split) <;> omega
          have t1 : ¬ (c : Int) < (128 : Int) := by omega
          have t2 : (194 : Int) ≤ (c : Int) := by omega
          have t3 : ¬ (c : Int) ≤ (223 : Int) := by omega
          have t4 : (224 : Int) ≤ (c : Int) := by omega
          have t5 : (c : Int) ≤ (239 : Int) := by omega
          have t6 : ¬ (240 : Int) ≤ (c : Int) := by omega
          have t7 : (c : Int) ≤ (244 : Int) := by omega
          have e224 : ((c : Int) == 224) = false := by rw [beq_eq_false_iff_ne]; omega
          have e237 : ((c : Int) == 237) = false := by rw [beq_eq_false_iff_ne]; omega
          have e240 : ((c : Int) == 240) = false := by rw [beq_eq_false_iff_ne]; omega
          have e244 : ((c : Int) == 244) = false := by rw [beq_eq_false_iff_ne]; omega
          have HQ := Lib.hid q; clear q r0 r1
          go_wp2_with fail
          go_meet
          case rel => exact ⟨by rw [HQ.out.1]; rfl, by rw [HQ.out.2.1]; rfl, by rw [HQ.out.2.2]; rfl, rfl⟩
        · have q : uN c = 3 ∧ uLo c = 128 ∧ uHi c = 159 := by
            unfold uN uLo uHi
            refine ⟨?_, ?_, ?_⟩ <;> (repeat' split) <;> omega
          have t1 : ¬ (c : Int) < (128 : Int) := by omega
          have t2 : (194 : Int) ≤ (c : Int) := by omega
          have t3 : ¬ (c : Int) ≤ (223 : Int) := by omega
          have t4 : (224 : Int) ≤ (c : Int) := by omega
          have t5 : (c : Int) ≤ (239 : Int) := by omega
          have t6 : ¬ (240 : Int) ≤ (c : Int) := by omega
          have t7 : (c : Int) ≤ (244 : Int) := by omega
          have e224 : ((c : Int) == 224) = false := by rw [beq_eq_false_iff_ne]; omega
          have e237 : ((c : Int) == 237) = true := by rw [beq_iff_eq]; omega
          have e240 : ((c : Int) == 240) = false := by rw [beq_eq_false_iff_ne]; omega
          have e244 : ((c : Int) == 244) = false := by rw [beq_eq_false_iff_ne]; omega
          have HQ := Lib.hid q; clear q r0 r1
          go_wp2_with fail
          go_meet
          case rel => exact ⟨by rw [HQ.out.1]; rfl, by rw [HQ.out.2.1]; rfl, by rw [HQ.out.2.2]; rfl, rfl⟩
        · have q : uN c = 3 ∧ uLo c = 128 ∧ uHi c = 191 := by
            unfold uN uLo uHi
            refine ⟨?_, ?_, ?_⟩ <;> (repeat' split) <;> omega
          have t1 : ¬ (c : Int) < (128 : Int) := by omega
          have t2 : (194 : Int) ≤ (c : Int) := by omega
          have t3 : ¬ (c : Int) ≤ (223 : Int) := by omega
          have t4 : (224 : Int) ≤ (c : Int) := by omega
          have t5 : (c : Int) ≤ (239 : Int) := by omega
          have t6 : ¬ (240 : Int) ≤ (c : Int) := by omega
          have t7 : (c : Int) ≤ (244 : Int) := by omega
          have e224 : ((c : Int) == 224) = false := by rw [beq_eq_false_iff_ne]; omega
          have e237 : ((c : Int) == 237) = false := by rw [beq_eq_false_iff_ne]; omega
          have e240 : ((c : Int) == 240) = false := by rw [beq_eq_false_iff_ne]; omega
          have e244 : ((c : Int) == 244) = false := by rw [beq_eq_false_iff_ne]; omega
          have HQ := Lib.hid q; clear q r0 r1
          go_wp2_with fail
          go_meet
          case rel => exact ⟨by rw [HQ.out.1]; rfl, by rw [HQ.out.2.1]; rfl, by rw [HQ.out.2.2]; rfl, rfl⟩
        · have q : uN c = 4 ∧ uLo c = 144 ∧ uHi c = 191 := by
            unfold uN uLo uHi
            refine ⟨?_, ?_, ?_⟩ <;> (repeat' split) <;> omega
          have t1 : ¬ (c : Int) < (128 : Int) := by omega
          have t2 : (194 : Int) ≤ (c : Int) := by omega
          have t3 : ¬ (c : Int) ≤ (223 : Int) := by omega
          have t4 : (224 : Int) ≤ (c : Int) := by omega
          have t5 : ¬ (c : Int) ≤ (239 : Int) := by omega
          have t6 : (240 : Int) ≤ (c : Int) := by omega
          have t7 : (c : Int) ≤ (244 : Int) := by omega
          have e224 : ((c : Int) == 224) = false := by rw [beq_eq_false_iff_ne]; omega
          have e237 : ((c : Int) == 237) = false := by rw [beq_eq_false_iff_ne]; omega
          have e240 : ((c : Int) == 240) = true := by rw [beq_iff_eq]; omega
          have e244 : ((c : Int) == 244) = false := by rw [beq_eq_false_iff_ne]; omega
          have HQ := Lib.hid q; clear q r0 r1
          go_wp2_with fail
          go_meet
          case rel => exact ⟨by rw [HQ.out.1]; rfl, by rw [HQ.out.2.1]; rfl, by rw [HQ.out.2.2]; rfl, rfl⟩
        · have q : uN c = 4 ∧ uLo c = 128 ∧ uHi c = 191 := by
            unfold uN uLo uHi
            refine ⟨?_, ?_, ?_⟩ <;> (repeat' split) <;> omega
          have t1 : ¬ (c : Int) < (128 : Int) := by omega
          have t2 : (194 : Int) ≤ (c : Int) := by omega
          have t3 : ¬ (c : Int) ≤ (223 : Int) := by omega
          have t4 : (224 : Int) ≤ (c : Int) := by omega
          have t5 : ¬ (c : Int) ≤ (239 : Int) := by omega
          have t6 : (240 : Int) ≤ (c : Int) := by omega
          have t7 : (c : Int) ≤ (244 : Int) := by omega
          have e224 : ((c : Int) == 224) = false := by rw [beq_eq_false_iff_ne]; omega
          have e237 : ((c : Int) == 237) = false := by rw [beq_eq_false_iff_ne]; omega
          have e240 : ((c : Int) == 240) = false := by rw [beq_eq_false_iff_ne]; omega
          have e244 : ((c : Int) == 244) = false := by rw [beq_eq_false_iff_ne]; omega
          have HQ := Lib.hid q; clear q r0 r1
          go_wp2_with fail
          go_meet
          case rel => exact ⟨by rw [HQ.out.1]; rfl, by rw [HQ.out.2.1]; rfl, by rw [HQ.out.2.2]; rfl, rfl⟩
        · have q : uN c = 4 ∧ uLo c = 128 ∧ uHi c = 143 := by
            unfold uN uLo uHi
            refine ⟨?_, ?_, ?_⟩ <;> (repeat' split) <;> omega
          have t1 : ¬ (c : Int) < (128 : Int) := by omega
          have t2 : (194 : Int) ≤ (c : Int) := by omega
          have t3 : ¬ (c : Int) ≤ (223 : Int) := by omega
          have t4 : (224 : Int) ≤ (c : Int) := by omega
          have t5 : ¬ (c : Int) ≤ (239 : Int) := by omega
          have t6 : (240 : Int) ≤ (c : Int) := by omega
          have t7 : (c : Int) ≤ (244 : Int) := by omega
          have e224 : ((c : Int) == 224) = false := by rw [beq_eq_false_iff_ne]; omega
          have e237 : ((c : Int) == 237) = false := by rw [beq_eq_false_iff_ne]; omega
          have e240 : ((c : Int) == 240) = false := by rw [beq_eq_false_iff_ne]; omega
          have e244 : ((c : Int) == 244) = true := by rw [beq_iff_eq]; omega
          have HQ := Lib.hid q; clear q r0 r1
          go_wp2_with fail
          go_meet
          case rel => exact ⟨by rw [HQ.out.1]; rfl, by rw [HQ.out.2.1]; rfl, by rw [HQ.out.2.2]; rfl, rfl⟩
        · have q : uN c = 0 ∧ uLo c = 128 ∧ uHi c = 191 := by
            unfold uN uLo uHi
            refine ⟨?_, ?_, ?_⟩ <;> (repeat' split) <;> omega
          have t1 : ¬ (c : Int) < (128 : Int) := by omega
          have t2 : (194 : Int) ≤ (c : Int) := by omega
          have t3 : ¬ (c : Int) ≤ (223 : Int) := by omega
          have t4 : (224 : Int) ≤ (c : Int) := by omega
          have t5 : ¬ (c : Int) ≤ (239 : Int) := by omega
          have t6 : (240 : Int) ≤ (c : Int) := by omega
          have t7 : ¬ (c : Int) ≤ (244 : Int) := by omega
          have e224 : ((c : Int) == 224) = false := by rw [beq_eq_false_iff_ne]; omega
          have e237 : ((c : Int) == 237) = false := by rw [beq_eq_false_iff_ne]; omega
          have e240 : ((c : Int) == 240) = false := by rw [beq_eq_false_iff_ne]; omega
          have e244 : ((c : Int) == 244) = false := by rw [beq_eq_false_iff_ne]; omega
          have HQ := Lib.hid q; clear q r0 r1
          go_wp2_with fail
          go_meet
          case rel => exact ⟨by rw [HQ.out.1]; rfl, by rw [HQ.out.2.1]; rfl, by rw [HQ.out.2.2]; rfl, rfl⟩
      case rest =>
        obtain ⟨rfl, rfl, rfl, rfl⟩ := hcut
        have hn4 := uN_le c
        have hlo := uLo_le c
        generalize uN c = N at *
        generalize uLo c = a at *
        generalize uHi c = b at *
        by_cases hN0 : N = 0
        · subst hN0
          have HF := Lib.hid (show U = false by rw [← HU.out, if_pos rfl])
          go_wp2_with fail
          go_ret
          exact ⟨by rw [HF.out]; first | done | rfl, by simp⟩
        have hNb : ((N : Int) == 0) = false := by rw [beq_eq_false_iff_ne]; omega
        by_cases hNl : s.size < i + N
        · have HF := Lib.hid (show U = false by rw [← HU.out, if_neg hN0, utfD_at_short s _ _ _ _ (by omega) (by omega)])
          have hNlI : (s.size : Int) < (i : Int) + N := by omega
          go_wp2_with fail
          go_ret
          exact ⟨by rw [HF.out]; first | done | rfl, by simp⟩
        have hNlI : ¬ (s.size : Int) < (i : Int) + N := by omega
        have HG := Lib.hid (show utfD (N - 1) a b (s.data.toList.drop (i + 1)) = U by rw [← HU.out, if_neg hN0])
        clear HU
        go_wp2_with fail
        go_loopw [2, 6, 7, 8, 9] (fun r lo hi kv _ wr => ∃ k a b : Nat, 1 ≤ k ∧ k ≤ N ∧ r = .bool false ∧ kv = .int .i64 k ∧ lo = .int .i64 a ∧ hi = .int .i64 b ∧ utfD (N - k) a b (s.data.toList.drop (i + k)) = U ∧ wc = wr) (fun _ _ _ kv _ _ => N - (intOf kv).toNat)
        case atStart => exact ⟨1, a, b, Nat.le_refl _, by omega, rfl, rfl, rfl, rfl, HG.out, by simp⟩
        case round =>
          obtain ⟨k, a, b, hk1, hkN, rfl, rfl, rfl, rfl, hu, rfl⟩ := hrel
          by_cases hkn : k < N
          · rw [show N - k = (N - (k + 1)) + 1 by omega, utfD_at s _ a b (i + k) (by omega)] at hu
            have HU := Lib.hid hu; clear hu HG
            have hix : (i : Int) + k < s.size := by omega
            have hik : ((i : Int) + k).toNat = i + k := by omega
            have hc1 : s[i + k].toNat < 256 := s[i + k].toNat_lt
            generalize hx1 : s[i + k].toNat = x1 at *
            have hx1I : ((s[i + k].toNat : Nat) : Int) = x1 := by rw [hx1]
            clear hx1
            by_cases hA : x1 < a
            · have HF := Lib.hid (show U = false by rw [← HU.out, if_neg (by omega)])
              go_wp2_with fail
              go_ret
              exact ⟨by rw [HF.out]; first | done | rfl, by simp⟩
            · by_cases hB : b < x1
              · have HF := Lib.hid (show U = false by rw [← HU.out, if_neg (by omega)])
                go_wp2_with fail
                go_ret
                exact ⟨by rw [HF.out]; first | done | rfl, by simp⟩
              · have HF := Lib.hid (show utfD (N - (k + 1)) 128 191 (s.data.toList.drop (i + (k + 1))) = U by rw [← HU.out, if_pos (by omega)]; rfl)
                go_wp2_with fail
                go_roundw
                case rel => exact ⟨k + 1, 128, 191, by omega, by omega, rfl, by go_num, rfl, rfl, HF.out, by simp⟩
                case measure => simp [intOf]; omega
          · obtain rfl : k = N := by omega
            rw [Nat.sub_self] at hu
            have HV := Lib.hid (show utfD 0 0 0 (s.data.toList.drop (i + k)) = U from (utfD_zero _ _ _).symm.trans hu)
            clear hu HG
            go_wp2_with fail
            go_roundw
            case rel => exact ⟨i + k, by omega, rfl, by go_num, HV.out, by simp⟩
            case measure => simp [intOf]; omega
    · obtain rfl : i = s.size := by omega
      rw [utfD_at_end] at hu
      have HU := Lib.hid hu.symm; clear hu hlt
      go_wp2_with fail
      go_ret
      exact ⟨by rw [HU.out]; first | done | rfl, rfl⟩
end Go.Proofs.YtjcbjocgachpjaaGreatDoor
/- A range over a function whose iterator keeps a state of its own in cells that it has captured: the law for its caller. Over any program. The kit's law of the same statement (Derived.RangeFuncFrom) asks that the iterator writes no cells; this one is its proof turned so that the blocks 'Mine' may be written, of which the caller's invariant says nothing. -/
set_option linter.unusedVariables false
set_option linter.unusedSimpArgs false
namespace Sw
open Go Go.RowKit
/-- what is said bears that the iterator turns its own blocks, or a new walk of its own -/
def AbM {β : Type} (Mine : Nat → Prop) (B : Nat) (J : β → World → Prop) : Prop :=
  ∀ s W W' row, J s W → W.grownBy W' row → (∀ r, row = some r → Mine r ∨ (B ≤ r ∧ ∃ o : Obj, W.heap[r]? = some o ∧ o.isWalk = true)) → J s W'
/-- what the caller says bears the turn of the iterator's blocks, and of new ones that are no cells -/
def OwnM {β : Type} (Mine : Nat → Prop) (B : Nat) (I : β → World → Prop) : Prop :=
  ∀ s W W' row, I s W → W.grownBy W' row → (∀ r, row = some r → Mine r ∨ (B ≤ r ∧ ∃ o : Obj, W.heap[r]? = some o ∧ o.isCells = false)) → I s W'
theorem OwnM.and {β : Type} {Mine : Nat → Prop} {B : Nat} {I I' : β → World → Prop} (h : OwnM Mine B I) (h' : OwnM Mine B I') : OwnM Mine B (fun s W => I s W ∧ I' s W) := fun s W W' row hs hg hr => ⟨h s W W' row hs.1 hg hr, h' s W W' row hs.2 hg hr⟩
theorem OwnM.turn {β : Type} {Mine : Nat → Prop} {B : Nat} {I : β → World → Prop} (h : OwnM Mine B I) {s : β} {W : World} {l : Nat} {o : Obj} (o' : Obj) (hs : I s W) (hB : B ≤ l) (hl : W.heap[l]? = some o) (ho : o.isCells = false) : I s (W.putObj l o') :=
  h s W _ (some l) hs (grownBy_putObj' W l o') (fun r e => by cases e; exact .inr ⟨hB, o, hl, ho⟩)
theorem OwnM.new {β : Type} {Mine : Nat → Prop} {B : Nat} {I : β → World → Prop} (h : OwnM Mine B I) {s : β} {W : World} (o : Obj) (hs : I s W) : I s (W.alloc o) :=
  h s W _ none hs (World.grownBy_alloc W o none) (fun r e => by cases e)
/-- a block that is cells, and none of the iterator's -/
theorem blk_ownM {W W' : World} {row : Option Nat} {Mine : Nat → Prop} {B g : Nat} {t : TypeId} {cs : Array Value} (h : Blk W g t cs) (hm : ¬ Mine g) (hg : W.grownBy W' row) (hr : ∀ r, row = some r → Mine r ∨ (B ≤ r ∧ ∃ o : Obj, W.heap[r]? = some o ∧ o.isCells = false)) : Blk W' g t cs :=
  h.grown hg (fun e => by
    rcases hr g e.symm with h1 | ⟨_, o, ho, hc⟩
    · exact hm h1
    · unfold Blk at h
      rw [h] at ho
      cases ho
      cases hc)
theorem ownM_below {β : Type} {Mine : Nat → Prop} {n₀ B : Nat} {w₀ : World} (hn : n₀ ≤ w₀.heap.size) (hB : n₀ ≤ B) (hm : ∀ r, Mine r → n₀ ≤ r) : OwnM Mine B (fun (_ : β) W => Below n₀ w₀ W) :=
  fun _ _ _ _ hs hg hr => hs.grown hg (Nat.le_trans hn hs.size) (fun k e => by
    rcases hr k e with h | h
    · exact hm k h
    · exact Nat.le_trans hB h.1)
/-- an iterator's contract, where it may write the blocks Mine -/
def SeqOwns {α : Type} (Mine : Nat → Prop) (F : Fence) (n : Nat) (P : Program) (g : Nat) (lb : Array Value) (encs : α → Array Value) (Kp : World → World → Prop) (S Sp : List α → Prop) (N : Nat) (w : World) : Prop :=
  ∀ (l : Nat) (J Jx : List α → World → Prop) (W : World), Below w.heap.size w W → AbM Mine W.heap.size J → AbM Mine W.heap.size Jx →
    (∀ pre x W1, J pre W1 → pre.length < N → YieldAt F (n - 1) P l (encs x) W1 fun e W' =>
      (e = .returned (.bool true) ∧ J (pre ++ [x]) W' ∧ Kp W1 W') ∨ (e = .returned (.bool false) ∧ Jx (pre ++ [x]) W')) →
    J [] W →
    CallsIn F n P g (#[.func (.yield l) #[] #[]] ++ lb) W fun e W' => (∃ v, e = .returned v) ∧ ((∃ xs, S xs ∧ J xs W') ∨ (∃ pre, Sp pre ∧ Jx pre W'))
variable {F : Fence} {n : Nat} {P : Program}
theorem wpIn_rangeFunc_mine {α : Type} {g : Operand} {ps : Array Tmp} {assign body : Code} {Q : Exit → Act → World → Prop} {a : Act} {w : World} {Mine : Nat → Prop} (hM : ∀ r, Mine r → r < w.heap.size)
    (hro : F.round = none) (h1 : 1 ≤ n) {gf : Nat} {lb : Array Value} (hg : a.eval g = .func (.func gf) #[] lb) (hFg : F.fn gf) (eg : ∀ args w, (callFunc gf args).run P w = .ok (.enter gf args) w)
    {encs : α → Array Value} {Kp : World → World → Prop} {S Sp : List α → Prop} {N : Nat} {w0 : World} (hseq : SeqOwns Mine F (n - 1) P gf lb encs Kp S Sp N w0)
    (hKt : ∀ {A B C : World}, Kp A B → Kp B C → Kp A C) (hKb : ∀ (W : World) (l : Nat) (o o' : Obj), w.heap.size ≤ l → W.heap[l]? = some o → o.isCells = false → o.isWalk = false → Kp W (W.putObj l o')) (hb0 : Below w0.heap.size w0 w) (hps : ∀ x, (encs x).size = ps.size)
    (I : List α → World → Prop) (Ix : Code → List α → World → Prop) (hI : OwnM Mine w.heap.size I) (hIx : ∀ c, OwnM Mine w.heap.size (Ix c)) (h0 : I [] w) (a₁ : α → Act)
    (hassign : ∀ (l : Nat) (x : α) (W : World) (K : Act → World → Prop), K (a₁ x) W →
      assign.wpIn (F.inRound l) (n - 1 - 1) P (Exit.then K (fun _ _ _ => False)) { tmps := (ps.zip (encs x)).foldl (fun t (p, v) => t.setIfInBounds p v) a.tmps, defers := [] } W)
    (hbody : ∀ (l : Nat) (pre : List α) (x : α) (W : World), I pre W → pre.length < N → body.wpIn (F.inRound l) (n - 1 - 1) P (ownPostK Kp I Ix (pre ++ [x]) W) (a₁ x) W)
    (hdone : ∀ (D : Nat) (xs : List α) (W : World), w.heap.size ≤ D → S xs → I xs W → W.heap[D]? = some (.deferred (some [])) → Q .normal { a with defers := { target := .collected D, args := #[] } :: a.defers } W)
    (hstop : ∀ (D : Nat) (c : Code) (pre : List α) (W : World), w.heap.size ≤ D → Sp pre → Ix c pre W → W.heap[D]? = some (.deferred (some [])) → c.wpIn F n P Q { a with defers := { target := .collected D, args := #[] } :: a.defers } W) :
    (Code.rangeFunc g ps assign body).wpIn F n P Q a w := by
  refine wpIn_rangeFunc fun fn hfn => ?_
  rw [hro]
  obtain ⟨D, hD⟩ : ∃ D, D = w.heap.size := ⟨_, rfl⟩
  obtain ⟨R, hR⟩ : ∃ R : LoopState → Option Code → Loop, R = fun st pe => { state := st, pending := pe, fn, tmps := a.tmps, params := ps, assign, body, defers := w.heap.size } := ⟨_, rfl⟩
  obtain ⟨W1, hW1⟩ : ∃ W1, (w.alloc (.deferred (some []))).alloc (.loop (R .ready none)) = W1 := ⟨_, rfl⟩
  have hs1 : W1.heap.size = D + 1 + 1 := by rw [← hW1, hD]; simp
  have hL1 : W1.heap[D + 1]? = some (.loop (R .ready none)) := by
    rw [← hW1, hD]
    have := World.alloc_heap_new (w.alloc (.deferred (some []))) (.loop (R .ready none))
    rwa [World.size_alloc] at this
  have hD1 : W1.heap[D]? = some (.deferred (some [])) := by
    rw [← hW1, hD]
    exact (Below.heap_alloc _ _ _ (by simp)).trans (World.alloc_heap_new w _)
  have hI1 : I [] W1 := by rw [← hW1]; exact hI.new _ (hI.new _ h0)
  have hb1 : Below w0.heap.size w0 W1 := by
    rw [← hW1]
    exact hb0.trans ((((Below.refl _ w).alloc (Nat.le_refl _) _).alloc (by simp) _).mono hb0.size)
  -- the loop's own record and its block lie where the iterator does not write
  have stays : ∀ {A B : World} {row : Option Nat} {k : Nat} {o : Obj}, D ≤ k → A.heap[k]? = some o → o.isWalk = false → A.grownBy B row → (∀ r, row = some r → Mine r ∨ (W1.heap.size ≤ r ∧ ∃ o : Obj, A.heap[r]? = some o ∧ o.isWalk = true)) → B.heap[k]? = some o := by
    intro A B row k o hk ho hw hgr hr
    refine (hgr.block k (Array.getElem?_eq_some_iff.1 ho).1 (fun e => ?_)).trans ho
    rcases hr k e.symm with h | ⟨_, o', ho', hw'⟩
    · have := hM k h; omega
    · rw [ho] at ho'; cases ho'; rw [hw] at hw'; cases hw'
  have wide : ∀ {A : World} {row : Option Nat}, (∀ r, row = some r → Mine r ∨ (W1.heap.size ≤ r ∧ ∃ o : Obj, A.heap[r]? = some o ∧ o.isWalk = true)) → (∀ r, row = some r → Mine r ∨ (w.heap.size ≤ r ∧ ∃ o : Obj, A.heap[r]? = some o ∧ o.isCells = false)) := by
    intro A row hr r e
    rcases hr r e with h | ⟨hB, o, ho, hw⟩
    · exact .inl h
    · exact .inr ⟨by omega, o, ho, Obj.not_cells_of_walk hw⟩
  refine ⟨D + 1, [{ target := .collected D, args := #[] }], W1, { target := .fn (.func gf) lb, args := #[.func (.yield (D + 1)) #[] #[]] }, W1, gf, #[.func (.yield (D + 1)) #[] #[]] ++ lb, W1, ?_, ?_, ?_, ?_, fun _ => h1, ?_⟩
  · rw [← hW1, hR, hD]; exact run_enterLoop_outer _ _ _ _ _
  · simp only [resolve, hg]
    simp [go_sem]
  · intro f' hf'
    simp [Target.leads] at hf'
    subst hf'
    exact hFg
  · simp [invoke, go_sem, eg]
  refine (hseq (D + 1) (fun pre W => I pre W ∧ W.heap[D + 1]? = some (.loop (R .ready none)) ∧ W.heap[D]? = some (.deferred (some [])))
    (fun pre W => ∃ c, Ix c pre W ∧ W.heap[D + 1]? = some (.loop (R .done (some c))) ∧ W.heap[D]? = some (.deferred (some []))) W1 hb1
    (fun s A B row hs hgr hr => ⟨hI s A B row hs.1 hgr (wide hr), stays (by omega) hs.2.1 rfl hgr hr, stays (Nat.le_refl _) hs.2.2 rfl hgr hr⟩)
    (fun s A B row hs hgr hr => by
      obtain ⟨c, hc, hl, hk⟩ := hs
      exact ⟨c, hIx c s A B row hc hgr (wide hr), stays (by omega) hl rfl hgr hr, stays (Nat.le_refl _) hk rfl hgr hr⟩)
    ?_ ⟨hI1, hL1, hD1⟩).mono ?_
  · rintro pre x W ⟨hi, hl, hk⟩ hlen
    have hlt : D + 1 < W.heap.size := (Array.getElem?_eq_some_iff.1 hl).1
    obtain ⟨busy, hbusy⟩ : ∃ b : Loop, b = { R .ready none with state := .busy } := ⟨_, rfl⟩
    obtain ⟨W2, hW2⟩ : ∃ W2, W.putObj (D + 1) (.loop busy) = W2 := ⟨_, rfl⟩
    have hy := run_yield (P := P) (args := encs x) hl (by rw [hR]; exact hps x)
    rw [hR] at hy
    refine ⟨fn, _, assign, body, hy, roundIn_of_wpIn hfn (hassign _ x W _ ⟨W2, by rw [← hW2, hbusy]; exact run_beginRound hl (by rw [hR]), ?_⟩)⟩
    have hl2 : W2.heap[D + 1]? = some (.loop busy) := by rw [← hW2]; exact World.putObj_heap_same hlt
    have hk2 : W2.heap[D]? = some (.deferred (some [])) := by rw [← hW2]; exact (World.putObj_heap_other (by omega)).trans hk
    have hw2 : Kp W W2 := by rw [← hW2]; exact hKb _ _ _ _ (by omega) hl rfl rfl
    have hi2 : I pre W2 := by rw [← hW2]; exact hI.turn _ hi (by omega) hl rfl
    refine wpIn_mono (hbody _ pre x _ hi2 hlen) ?_
    have fin : ∀ (jump : Option Code) (W3 : World), KeepsOthers W2 W3 → ∃ W4, W3.putObj (D + 1) (.loop (R (if jump.isNone then .ready else .done) jump)) = W4 ∧
        (Instr.endRound (D + 1) jump).run P W3 = .ok (.bool jump.isNone) W4 ∧ W3.heap[D + 1]? = some (.loop busy) ∧
        W4.heap[D + 1]? = some (.loop (R (if jump.isNone then .ready else .done) jump)) ∧ W4.heap[D]? = some (.deferred (some [])) := fun jump W3 hk3 => by
      have hl3 := hk3.same _ _ hl2 rfl
      have := run_endRound (P := P) jump hl3
      rw [hbusy, hR] at this
      refine ⟨_, rfl, ?_, hl3, World.putObj_heap_same (Array.getElem?_eq_some_iff.1 hl3).1, (World.putObj_heap_other (by omega)).trans (hk3.same _ _ hk2 rfl)⟩
      rw [hR]
      exact this
    rintro e a3 W3 hp
    have out : ∀ c, KeepsOthers W2 W3 → Ix c (pre ++ [x]) W3 → ∃ v W4, (Instr.endRound (D + 1) (some c)).run P W3 = .ok v W4 ∧ Ending.returned v = .returned (.bool false) ∧ Ix c (pre ++ [x]) W4 ∧ W4.heap[D + 1]? = some (.loop (R .done (some c))) ∧ W4.heap[D]? = some (.deferred (some [])) := fun c hk3 hi3 => by
      obtain ⟨W4, hW4, hr, hl3, hl4, hk4⟩ := fin (some c) W3 hk3
      exact ⟨_, W4, hr, rfl, by rw [← hW4]; exact (hIx c).turn _ hi3 (by omega) hl3 rfl, hl4, hk4⟩
    cases e with
    | normal =>
      obtain ⟨hk3, hkp3, hi3⟩ := hp
      obtain ⟨W4, hW4, hr, hl3, hl4, hk4⟩ := fin none W3 hk3
      refine ⟨_, W4, hr, .inl ⟨rfl, ⟨?_, hl4, hk4⟩, ?_⟩⟩
      · rw [← hW4]; exact hI.turn _ hi3 (by omega) hl3 rfl
      · rw [← hW4]; exact hKt (hKt hw2 hkp3) (hKb _ _ _ _ (by omega) hl3 rfl (by rw [hbusy]; rfl))
    | ret =>
      obtain ⟨v, W4, hr, hv, h4⟩ := out .ret hp.1 hp.2
      exact ⟨v, W4, hr, .inr ⟨hv, .ret, h4⟩⟩
    | exit id =>
      obtain ⟨v, W4, hr, hv, h4⟩ := out (.exit id) hp.1 hp.2
      exact ⟨v, W4, hr, .inr ⟨hv, .exit id, h4⟩⟩
    | goto t =>
      obtain ⟨v, W4, hr, hv, h4⟩ := out (.goto t) hp.1 hp.2
      exact ⟨v, W4, hr, .inr ⟨hv, .goto t, h4⟩⟩
    | panic ch => exact hp.elim
    | outgrown => exact hp.elim
  · rintro e W2 ⟨⟨v, rfl⟩, (⟨xs, hS, hi, hl, hk⟩ | ⟨pre, hSp, c, hi, hl, hk⟩)⟩
    · have hr := run_endLoop (P := P) hl (by rw [hR]; simp)
      rw [hR] at hr
      refine ⟨none, _, hr, ?_⟩
      exact hdone D xs _ (by omega) hS (hI.turn _ hi (by omega) hl rfl) ((World.putObj_heap_other (by omega)).trans hk)
    · have hr := run_endLoop (P := P) hl (by rw [hR]; simp)
      rw [hR] at hr
      refine ⟨some c, _, hr, ?_⟩
      exact hstop D c pre _ (by omega) hSp ((hIx c).turn _ hi (by omega) hl rfl) ((World.putObj_heap_other (by omega)).trans hk)
end Sw
