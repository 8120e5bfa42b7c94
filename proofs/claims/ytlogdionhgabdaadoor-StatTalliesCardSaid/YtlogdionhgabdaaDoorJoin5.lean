/- Several texts, joined for the limit of sixty files; each one opens with its own comment. -/
import Derived.Deep.AppendLies
import Derived.Laws.OwnMore
import Derived.Laws.IdiomStrings
import Derived.Test.YtlogdionhgabdaaDoorJoin2
/- Slices that the call itself makes by append, over any program. -/
set_option linter.unusedVariables false
set_option linter.unusedSimpArgs false
namespace Sw
open Go Go.RowKit
/-- the cells of bytes -/
def bytesV (l : List UInt8) : List Value := l.map fun b => .int .u8 (b.toNat : Int)
theorem bytesV_length (l : List UInt8) : (bytesV l).length = l.length := by simp [bytesV]
theorem bytesV_append (l m : List UInt8) : bytesV (l ++ m) = bytesV l ++ bytesV m := by simp [bytesV]
/-- 'append(l, x)' onto a slice of the call's own, where x lies in a block of its own of one element -/
theorem wpList_app {P : Program} {w : World} {ops : Array Oper} {rest : List Oper} {o : Oper} {a : Act} {Q : Exit → Act → World → Prop} (hgd : o.guard = none) (s x : Operand) (t : TypeId)
    (ho : o.op = .call { callee := .builtin .append, args := #[s, x], argTypes := #[t, t] })
    (base : Nat) (e : TypeId) (z : Value) (size bytes : Nat) (ht : P.underlying t = some (.slice e)) (hi : (P.info? e).map (fun i => (i.zero, i.size, i.bytes)) = some (some z, size, bytes))
    (hzs : z.cells.size = size) (hsz : 0 < size)
    (v : Value) (n : Nat) (xs : List Value) (hs : a.eval s = v) (hown : w.ownsRow base e size v n xs)
    (B : Nat) (c : Nat) (news : Array Value) (te : TypeId) (hx : a.eval x = .slice (some ⟨B, 0, none⟩) 1 c) (hB : Blk w B te news) (hl : news.size = size) (h1 : ∀ u ∈ news.toList, u.oneCell' = true)
    (hn : n + 1 ≤ 1000000) (hby : bytes ≤ 1000000) (hbase : base ≤ w.heap.size) (H : Nat) (hH : w.heap.size = H)
    (h : ∀ g cap w', w'.ownsRow base e size (.slice (some ⟨g, 0, none⟩) (n + 1) cap) (n + 1) (xs ++ news.toList) → w.grownBy w' v.ownBlock → (v.ownBlock = some g ∨ g = H) → g < w'.heap.size → wpList P ops Q rest (a.put o.dst (.slice (some ⟨g, 0, none⟩) (n + 1) cap)) w') :
    wpList P ops Q (o :: rest) a w := by
  obtain ⟨i, hi, hz, hs2, hb⟩ := info_parts hi
  refine wpList_append_lies w hgd s x t ho base e i z size bytes ht hi hz hs2 hb hzs hsz v n xs hs hown ⟨B, 0, none⟩ 1 c news.toList hx (by simpa using hl) (World.news_of_block hB) h1 (by omega) (by unfold maxLen; omega) ?_ hbase H hH h
  calc (n + 1) * bytes ≤ 1000000 * 1000000 := Nat.mul_le_mul hn hby
    _ ≤ 140737488355328 := by decide
/-- the same at a step of a region that draws its order -/
theorem step_app {P : Program} {w : World} {ops : Array Oper} {o : Oper} {a : Act} {K : Act → World → Prop} {Q : Exit → Act → World → Prop} {E : Prop} (hgd : o.guard = none) (s x : Operand) (t : TypeId)
    (ho : o.op = .call { callee := .builtin .append, args := #[s, x], argTypes := #[t, t] })
    (base : Nat) (e : TypeId) (z : Value) (size bytes : Nat) (ht : P.underlying t = some (.slice e)) (hi : (P.info? e).map (fun i => (i.zero, i.size, i.bytes)) = some (some z, size, bytes))
    (hzs : z.cells.size = size) (hsz : 0 < size)
    (v : Value) (n : Nat) (xs : List Value) (hs : a.eval s = v) (hown : w.ownsRow base e size v n xs)
    (B : Nat) (c : Nat) (news : Array Value) (te : TypeId) (hx : a.eval x = .slice (some ⟨B, 0, none⟩) 1 c) (hB : Blk w B te news) (hl : news.size = size) (h1 : ∀ u ∈ news.toList, u.oneCell' = true)
    (hn : n + 1 ≤ 1000000) (hby : bytes ≤ 1000000) (hbase : base ≤ w.heap.size) (H : Nat) (hH : w.heap.size = H)
    (h : ∀ g cap w', w'.ownsRow base e size (.slice (some ⟨g, 0, none⟩) (n + 1) cap) (n + 1) (xs ++ news.toList) → w.grownBy w' v.ownBlock → (v.ownBlock = some g ∨ g = H) → g < w'.heap.size → K (a.put o.dst (.slice (some ⟨g, 0, none⟩) (n + 1) cap)) w') :
    if Region.wanted o (yielded ops a.tmps) = true then Oper.wp P o a w K Q else E := by
  obtain ⟨i, hi, hz, hs2, hb⟩ := info_parts hi
  refine step_append_lies w hgd s x t ho base e i z size bytes ht hi hz hs2 hb hzs hsz v n xs hs hown ⟨B, 0, none⟩ 1 c news.toList hx (by simpa using hl) (World.news_of_block hB) h1 (by omega) (by unfold maxLen; omega) ?_ hbase H hH h
  calc (n + 1) * bytes ≤ 1000000 * 1000000 := Nat.mul_le_mul hn hby
    _ ≤ 140737488355328 := by decide
/-- string(l) of a slice of bytes that the call owns -/
theorem conv_own {P : Program} {w : World} (src dst e : TypeId) (hs : P.underlying src = some (.slice e)) (he : P.underlying e = some (.int .u8)) (hd : P.underlying dst = some .string) (base : Nat) (v : Value) (n : Nat) (l : List UInt8)
    (h : w.ownsRow base e 1 v n (bytesV l)) : (convert src dst v).run P w = .ok (.string ⟨l.toArray⟩) w := by
  have hl : l.length = n := by have := h.1; rw [bytesV_length] at this; omega
  rcases h.2 with ⟨rfl, h0⟩ | ⟨g, cap, cur, rfl, _, _⟩
  · subst h0
    have hl0 : l = [] := List.length_eq_zero_iff.1 hl
    subst hl0
    rw [run_convert_bytes_string w src dst e none 0 0 hs he hd]
    rfl
  · have := run_convert_bytes_back w src dst e ⟨g, 0, none⟩ cap l hs he hd (fun j hj => by
      refine h.cells rfl j _ ?_
      simp [bytesV, List.getElem?_eq_getElem hj])
    rw [hl] at this
    exact this
theorem own_ne {w : World} {base : Nat} {e : TypeId} {size : Nat} {v : Value} {n : Nat} {xs : List Value} (h : w.ownsRow base e size v n xs) (g : Nat) (hg : w.heap.size ≤ g) : v.ownBlock ≠ some g := by
  intro hv
  have := (h.lt g hv).2
  omega
theorem own_kept {w w' : World} {base : Nat} {e : TypeId} {size : Nat} {v : Value} {n : Nat} {xs : List Value} (h : w.ownsRow base e size v n xs) (hb : Below w.heap.size w w') : w'.ownsRow base e size v n xs :=
  h.kept (grown_below (row := none) hb) (by
    rcases v.ownBlock.eq_none_or_eq_some with h | ⟨g, h⟩
    · exact .inl h
    · right; rw [h]; simp)
theorem own_drew {w : World} {base : Nat} {e : TypeId} {size : Nat} {v : Value} {n : Nat} {xs : List Value} (h : w.ownsRow base e size v n xs) : w.drew.ownsRow base e size v n xs := h
/-- bytes that lie in a block -/
def BytesAt (w : World) (g : Nat) (l : List UInt8) : Prop := ∀ j (hj : j < l.length), w.cell? ⟨g, j, none⟩ = some (.int .u8 (l[j].toNat : Int)) ∧ w.frozen? ⟨g, j, none⟩ = false
theorem BytesAt.put {w : World} {g : Nat} {l : List UInt8} (h : BytesAt w g l) (k : Nat) (b : UInt8) (hk : k < l.length) : BytesAt (w.setCell ⟨g, k, none⟩ (.int .u8 (b.toNat : Int))) g (l.set k b) := by
  intro j hj
  rw [List.length_set] at hj
  obtain ⟨h1, h2⟩ := h j hj
  constructor
  · rw [List.getElem_set]
    by_cases hjk : k = j
    · subst hjk
      rw [if_pos rfl]
      exact World.cell?_setCell_same _ _ _ h1
    · rw [if_neg hjk]
      exact (World.cell?_setCell_other w _ _ _ (by intro e; exact hjk (congrArg Addr.off e))).trans h1
  · have hb : (w.setCell ⟨g, k, none⟩ (.int .u8 (b.toNat : Int))).frozen? ⟨g, j, none⟩ = w.frozen? ⟨g, j, none⟩ := by
      unfold World.frozen? World.setCell
      simp only [Array.getElem?_modify]
      by_cases hg : w.heap[g]? = none
      · simp [hg]
      · obtain ⟨o, ho⟩ := Option.ne_none_iff_exists'.1 hg
        cases o <;> simp [ho]
    rw [hb]; exact h2
theorem BytesAt.conv {P : Program} {w : World} {g : Nat} {l : List UInt8} (h : BytesAt w g l) (src dst e : TypeId) (hs : P.underlying src = some (.slice e)) (he : P.underlying e = some (.int .u8)) (hd : P.underlying dst = some .string) (cap : Nat) :
    (convert src dst (.slice (some ⟨g, 0, none⟩) l.length cap)).run P w = .ok (.string ⟨l.toArray⟩) w :=
  run_convert_bytes_back w src dst e ⟨g, 0, none⟩ cap l hs he hd (fun j hj => by
    rw [show ((⟨g, 0, none⟩ : Addr).add j) = ⟨g, j, none⟩ by unfold Addr.add; split <;> simp_all]
    exact (h j hj).1)
theorem run_bytes {P : Program} (w : World) (src dst e : TypeId) (s : ByteArray) (hs : P.underlying src = some .string) (hd : P.underlying dst = some (.slice e)) (he : P.underlying e = some (.int .u8)) :
    ∃ cap w', (convert src dst (.string s)).run P w = .ok (.slice (some ⟨w.heap.size, 0, none⟩) s.size cap) w' ∧ Below w.heap.size w w' ∧ w'.heap.size = w.heap.size + 1 ∧ BytesAt w' w.heap.size s.data.toList := by
  refine ⟨_, _, run_bytes_of_string w src dst e s hs hd he, (Below.refl _ _).drew.alloc (Nat.le_refl _) _, by simp, ?_⟩
  intro j hj
  have hj' : j < s.data.size := by simpa using hj
  have hc := World.cell?_alloc_mark w.drew (bytesRow s (grownCap w s.size 0 e)) e ((bytesRow s (grownCap w s.size 0 e)).size, (bytesRow s (grownCap w s.size 0 e)).size + 1) j
  have hf := World.frozen?_alloc_mark w.drew (bytesRow s (grownCap w s.size 0 e)) e (bytesRow s (grownCap w s.size 0 e)).size ((bytesRow s (grownCap w s.size 0 e)).size + 1) j
  rw [bytesRow_at s _ j hj'] at hc
  constructor
  · simpa using hc
  · refine hf.trans ?_
    have : j < (bytesRow s (grownCap w s.size 0 e)).size := by
      unfold bytesRow
      simp only [Array.size_append, Array.size_map]
      omega
    simp; omega
/-- two slices that the call grows side by side -/
structure Two (w : World) (base : Nat) (e : TypeId) (size : Nat) (v1 : Value) (n1 : Nat) (xs1 : List Value) (v2 : Value) (n2 : Nat) (xs2 : List Value) : Prop where
  a : w.ownsRow base e size v1 n1 xs1
  b : w.ownsRow base e size v2 n2 xs2
  ne : v1.ownBlock = none ∨ v1.ownBlock ≠ v2.ownBlock
section
variable {w w' w0 : World} {base : Nat} {e : TypeId} {size : Nat} {v1 v2 : Value} {n1 n2 : Nat} {xs1 xs2 : List Value}
theorem Two.symm (h : Two w base e size v1 n1 xs1 v2 n2 xs2) : Two w base e size v2 n2 xs2 v1 n1 xs1 :=
  ⟨h.b, h.a, by
    rcases h.ne with h | h
    · rcases Option.eq_none_or_eq_some v2.ownBlock with k | ⟨g, k⟩
      · exact .inl k
      · right; rw [k, h]; simp
    · exact .inr fun k => h k.symm⟩
theorem Two.kept (h : Two w base e size v1 n1 xs1 v2 n2 xs2) (hb : Below w.heap.size w w') : Two w' base e size v1 n1 xs1 v2 n2 xs2 := ⟨own_kept h.a hb, own_kept h.b hb, h.ne⟩
theorem Two.left (h : Two w base e size v1 n1 xs1 v2 n2 xs2) {g n cap : Nat} {xs : List Value} (ho : w'.ownsRow base e size (.slice (some ⟨g, 0, none⟩) n cap) n xs) (hg : w.grownBy w' v1.ownBlock) (hat : v1.ownBlock = some g ∨ g = w.heap.size) :
    Two w' base e size (.slice (some ⟨g, 0, none⟩) n cap) n xs v2 n2 xs2 :=
  ⟨ho, h.b.kept hg (by
    rcases h.symm.ne with k | k
    · exact .inl k
    · exact .inr k), by
    right
    show some g ≠ v2.ownBlock
    rcases hat with k | k
    · rcases h.ne with k2 | k2
      · rw [k] at k2; cases k2
      · rw [← k]; exact k2
    · intro k2
      exact own_ne h.b g (by omega) k2.symm⟩
theorem Two.right (h : Two w base e size v1 n1 xs1 v2 n2 xs2) {g n cap : Nat} {xs : List Value} (ho : w'.ownsRow base e size (.slice (some ⟨g, 0, none⟩) n cap) n xs) (hg : w.grownBy w' v2.ownBlock) (hat : v2.ownBlock = some g ∨ g = w.heap.size) :
    Two w' base e size v1 n1 xs1 (.slice (some ⟨g, 0, none⟩) n cap) n xs := (h.symm.left ho hg hat).symm
theorem own_below {B : Nat} {a w1 : World} (h : w.ownsRow base e size v1 n1 xs1) (hb : Below B a w1) (hg : w1.grownBy w' v1.ownBlock) (hB : B ≤ base) (hs : B ≤ w1.heap.size) : Below B a w' :=
  hb.grown hg hs (fun k hk => Nat.le_trans hB (h.lt k hk).1)
end
end Sw
