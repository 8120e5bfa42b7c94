/- Several texts, joined for the limit of sixty files; each one opens with its own comment. -/
import Derived.Test.YthnnnlbdbkdcaaaDoorJoin7
import Derived.Maps.AppendAt
import Derived.Test.YthnnnlbdbkdcaaaDoorJoin1
import Derived.Lib.LastIndexByte
/- Plain laws of name.Clean. -/
set_option linter.unusedVariables false
set_option linter.unusedSimpArgs false
namespace Sw
open Go Go.RowKit
/-- a part more, in a path that is made clean -/
def clStep (l : List ByteArray) (x : ByteArray) : Option (List ByteArray) := if x = ⟨#[]⟩ ∨ x = mkB [46] then some l else if x = mkB [46, 46] then (if l = [] then none else some l.dropLast) else some (l ++ [x])
def clFold : List ByteArray → List ByteArray → Option (List ByteArray)
  | l, [] => some l
  | l, x :: xs => match clStep l x with
    | none => none
    | some l' => clFold l' xs
theorem clFold_snoc (x : ByteArray) : ∀ (xs l : List ByteArray), clFold l (xs ++ [x]) = (clFold l xs).bind fun l' => clStep l' x
  | [], l => by
    show (match clStep l x with | none => none | some l' => clFold l' []) = clStep l x
    cases clStep l x <;> rfl
  | y :: xs, l => by
    show (match clStep l y with | none => none | some l' => clFold l' (xs ++ [x])) = (match clStep l y with | none => none | some l' => clFold l' xs).bind fun l' => clStep l' x
    cases clStep l y with
    | none => rfl
    | some l' => exact clFold_snoc x xs l'
theorem clFold_none (l : List ByteArray) (xs : List ByteArray) : ∀ (pre : List ByteArray) , clFold l pre = none → clFold l (pre ++ xs) = none := by
  intro pre
  induction pre generalizing l with
  | nil => intro h; cases h
  | cons y pre ih =>
    intro h
    show (match clStep l y with | none => none | some l' => clFold l' (pre ++ xs)) = none
    have h' : (match clStep l y with | none => none | some l' => clFold l' pre) = none := h
    cases hs : clStep l y with
    | none => rfl
    | some l' =>
      rw [hs] at h'
      exact ih l' h'
def wt (l : List ByteArray) : Nat := (l.map fun x => x.size + 1).sum
theorem wt_cons (x : ByteArray) (l : List ByteArray) : wt (x :: l) = x.size + 1 + wt l := by simp [wt]
theorem wt_snoc (l : List ByteArray) (x : ByteArray) : wt (l ++ [x]) = wt l + (x.size + 1) := by simp [wt]
theorem wt_drop (l : List ByteArray) : wt l.dropLast ≤ wt l := by
  by_cases h : l = []
  · subst h; simp
  · have := wt_snoc l.dropLast (l.getLast h)
    rw [List.dropLast_concat_getLast] at this
    omega
theorem clStep_wt {l l' : List ByteArray} {x : ByteArray} (h : clStep l x = some l') : wt l' ≤ wt l + (x.size + 1) := by
  unfold clStep at h
  split at h
  · injection h with h; subst h; omega
  · split at h
    · split at h
      · cases h
      · injection h with h; subst h; have := wt_drop l; omega
    · injection h with h; subst h; rw [wt_snoc]; omega
theorem clFold_wt : ∀ (xs l l' : List ByteArray), clFold l xs = some l' → wt l' ≤ wt l + wt xs
  | [], l, l', h => by
    have h : some l = some l' := h
    injection h with h
    subst h
    omega
  | x :: xs, l, l', h => by
    have h' : (match clStep l x with | none => none | some l' => clFold l' xs) = some l' := h
    cases hs : clStep l x with
    | none => rw [hs] at h'; cases h'
    | some l2 =>
      rw [hs] at h'
      have h1 := clStep_wt hs
      have h2 := clFold_wt xs l2 l' h'
      rw [wt_cons]
      omega
theorem clStep_len {l l' : List ByteArray} {x : ByteArray} (h : clStep l x = some l') : l'.length ≤ l.length + 1 := by
  unfold clStep at h
  split at h
  · injection h with h; subst h; omega
  · split at h
    · split at h
      · cases h
      · injection h with h; subst h; rw [List.length_dropLast]; omega
    · injection h with h; subst h; simp
theorem clFold_len : ∀ (xs l l' : List ByteArray), clFold l xs = some l' → l'.length ≤ l.length + xs.length
  | [], l, l', h => by
    have h : some l = some l' := h
    injection h with h
    subst h
    simp
  | x :: xs, l, l', h => by
    have h' : (match clStep l x with | none => none | some l' => clFold l' xs) = some l' := h
    cases hs : clStep l x with
    | none => rw [hs] at h'; cases h'
    | some l2 =>
      rw [hs] at h'
      have h1 := clStep_len hs
      have h2 := clFold_len xs l2 l' h'
      rw [List.length_cons]
      omega
theorem spL_wt : ∀ l : List UInt8, ((spL l).map fun x => x.length + 1).sum = l.length + 1
  | [] => rfl
  | b :: l => by
    have ih := spL_wt l
    rw [spL]
    split
    · rw [List.map_cons, List.sum_cons, ih, List.length_cons, List.length_nil]; omega
    · rw [← spL_head l, List.map_cons, List.sum_cons] at ih
      rw [List.map_cons, List.sum_cons, List.length_cons, List.length_cons]
      omega
theorem spS_wt (s : ByteArray) : wt (spS s) = s.size + 1 := by
  unfold wt spS
  rw [List.map_map]
  have h : (spL s.data.toList).map ((fun x : ByteArray => x.size + 1) ∘ mkB) = (spL s.data.toList).map fun x => x.length + 1 := List.map_congr_left fun a _ => by
    show (mkB a).size + 1 = a.length + 1
    rw [mkB_size]
  rw [h, spL_wt]
  simp
theorem wt_jn : ∀ l : List ByteArray, (jnL (datL l)).length ≤ wt l
  | [] => by simp [datL, jnL, wt]
  | [x] => by
    have h : x.data.toList.length = x.size := by simp
    show x.data.toList.length ≤ _
    rw [wt_cons]; omega
  | x :: y :: l => by
    have ih := wt_jn (y :: l)
    have h : x.data.toList.length = x.size := by simp
    have e : jnL (datL (x :: y :: l)) = x.data.toList ++ 47 :: jnL (datL (y :: l)) := jnL_cons _ _ (by simp [datL])
    rw [e, wt_cons, List.length_append, List.length_cons]
    omega
theorem wt_len : ∀ l : List ByteArray, l.length ≤ wt l
  | [] => by simp [wt]
  | x :: l => by
    have := wt_len l
    rw [wt_cons, List.length_cons]
    omega
/-- what is refused at once -/
def bad0 (s : ByteArray) : Bool := Lib.hasPrefix s.data.toList [47] || decide (0 ≤ Lib.indexByte s.data.toList 0)
def cleanO (s : ByteArray) : Option (List ByteArray) := if bad0 s = true then none else clFold [] (spS s)
def cleanS (s : ByteArray) : ByteArray := match cleanO s with
  | none => ⟨#[]⟩
  | some l => joinS l
def cleanB (s : ByteArray) : Bool := match cleanO s with
  | none => false
  | some l => joinB l
theorem own_same {w w' : World} {base : Nat} {e : TypeId} {size n : Nat} {v : Value} {xs : List Value} (h : w.ownsRow base e size v n xs) (he : ∀ k, some k = v.ownBlock → w'.heap[k]? = w.heap[k]?) : w'.ownsRow base e size v n xs := by
  refine ⟨h.1, ?_⟩
  rcases h.2 with h2 | ⟨g', cap, cur, rfl, h3, h4, h5⟩
  · exact .inl h2
  · exact .inr ⟨g', cap, cur, rfl, h3, (he g' rfl).trans h4, h5⟩
theorem own_pop {w : World} {base : Nat} {e : TypeId} {v : Value} {n : Nat} {xs : List Value} {x : Value} (h : w.ownsRow base e 1 v (n + 1) (xs ++ [x])) : ∃ g cap, v = .slice (some ⟨g, 0, none⟩) (n + 1) cap ∧ n + 1 ≤ cap ∧ cap ≤ maxLen ∧ w.ownsRow base e 1 (.slice (some ⟨g, 0, none⟩) n cap) n xs := by
  have hl := h.1
  rw [List.length_append, List.length_singleton] at hl
  rcases h.2 with ⟨_, h0⟩ | ⟨g, cap, cur, rfl, hb, hh, hc, hm, hsz, hx⟩
  · omega
  · refine ⟨g, cap, rfl, hc, hm, by omega, .inr ⟨g, cap, cur, rfl, hb, hh, by omega, hm, hsz, ?_⟩⟩
    have hxl : xs.length = n * 1 := by omega
    have h2 := congrArg (List.take (n * 1)) hx
    rw [List.take_take, Nat.min_eq_left (by omega), List.take_append_of_le_length (by omega), List.take_of_length_le (l := xs) (by omega)] at h2
    exact h2
theorem own_ownM {W W' : World} {row : Option Nat} {Mine : Nat → Prop} {B base : Nat} {e : TypeId} {size n : Nat} {v : Value} {xs : List Value} (h : W.ownsRow base e size v n xs) (hm : ∀ k, Mine k → k < base) (hg : W.grownBy W' row) (hr : ∀ r, row = some r → Mine r ∨ (B ≤ r ∧ ∃ o : Obj, W.heap[r]? = some o ∧ o.isCells = false)) : W'.ownsRow base e size v n xs := by
  refine own_same h fun k hk => ?_
  rcases h.2 with ⟨rfl, _⟩ | ⟨g, cap, cur, rfl, hb, hh, _⟩
  · cases hk
  · injection hk with hk
    subst hk
    refine hg.block k (Array.getElem?_eq_some_iff.1 hh).1 (fun e => ?_)
    rcases hr k e.symm with h1 | ⟨_, o, ho, hc⟩
    · have := hm k h1; omega
    · rw [hh] at ho; cases ho; cases hc
theorem keeps_own {W W' : World} {base : Nat} {e : TypeId} {size n : Nat} {v : Value} {xs : List Value} (h : W.ownsRow base e size v n xs) (hg : W.grownBy W' v.ownBlock) : KeepsOthers W W' :=
  ⟨hg.size, fun k o hk hc => by
    refine (hg.block k (Array.getElem?_eq_some_iff.1 hk).1 (fun e => ?_)).trans hk
    rcases h.2 with ⟨rfl, _⟩ | ⟨g, cap, cur, rfl, hb, hh, _⟩
    · cases e
    · injection e with e
      subst e
      rw [hh] at hk
      cases hk
      cases hc⟩
end Sw
/- The contract of name.Clean. -/
set_option linter.unusedVariables false
set_option linter.unusedSimpArgs false
namespace Go.Proofs.YthnnnlbdbkdcaaaDoor
open Go Go.RowKit Go.Shelf
open Sw
attribute [local go_sem] Oper.semAt_some
theorem res_str_bool {P : Program} {fn : Func} {p q : Tmp} {ty t1 : TypeId} (h : fn.results = #[.cell p ty, .cell q t1]) (tmps : Array Value) (w : World) (g g1 : Nat) (u u1 : TypeId) (s : ByteArray) (b : Bool)
    (hp : tmps.getD p undef = .pointer (some ⟨g, 0, none⟩)) (hq : tmps.getD q undef = .pointer (some ⟨g1, 0, none⟩)) (hg : Blk w g u #[.string s]) (hg1 : Blk w g1 u1 #[.bool b]) (hu : P.underlying ty = some .string) (hu1 : P.underlying t1 = some .bool) :
    (results fn tmps).run P w = .ok (.tuple #[.string s, .bool b]) w := by
  have hp' : tmps[p]?.getD undef = .pointer (some ⟨g, 0, none⟩) := by simpa using hp
  have hq' : tmps[q]?.getD undef = .pointer (some ⟨g1, 0, none⟩) := by simpa using hq
  have c1 : w.cell? ⟨g, 0, none⟩ = some (.string s) := by have := hg.cell 0; simpa using this
  have c2 : w.cell? ⟨g1, 0, none⟩ = some (.bool b) := by have := hg1.cell 0; simpa using this
  have l1 : (loadVar ty ⟨g, 0, none⟩).run P w = .ok (.string s) w := by simp [loadVar, isAgg, run_underlying hu, run_load, c1]
  have l2 : (loadVar t1 ⟨g1, 0, none⟩).run P w = .ok (.bool b) w := by simp [loadVar, isAgg, run_underlying hu1, run_load, c2]
  simp [results, h, hp', hq', asAddr, l1, l2]
theorem str_empty (x : ByteArray) : x.toList.isEmpty = decide (x = ⟨#[]⟩) := by
  rw [ByteArray.toList_eq]
  by_cases h : x = ⟨#[]⟩
  · subst h; rfl
  · rw [decide_eq_false h]
    cases hd : x.data.toList with
    | nil => exact absurd (by rw [← mkB_data x, hd]; rfl) h
    | cons a t => rfl
theorem str_is (x : ByteArray) (l : List UInt8) : (x.toList == l) = decide (x = mkB l) := by
  rw [str_eq_iff, decide_eq_decide]
  constructor
  · intro h; rw [← mkB_data x, h]
  · intro h; rw [h, data_mkB]
/-- what Clean knows between two rounds -/
def ClI (s : ByteArray) (T B : Nat) (pre : List (Pc s.size)) (W : World) : Prop :=
  (∃ l v, clFold [] (pre.map (·.1)) = some l ∧ Blk W (T + 1 + 1) 75 #[v] ∧ W.ownsRow B 9 1 v l.length (l.flatMap bE)) ∧ Blk W T 9 #[.string ⟨#[]⟩] ∧ Blk W (T + 1) 4 #[.bool false] ∧ B ≤ W.heap.size
/-- how Clean leaves a round -/
def ClX (s : ByteArray) (T : Nat) (c : Code) (pre : List (Pc s.size)) (W : World) : Prop :=
  clFold [] (pre.map (·.1)) = none ∧ c = .ret ∧ Blk W T 9 #[.string ⟨#[]⟩] ∧ Blk W (T + 1) 4 #[.bool false]
theorem clI_own {s : ByteArray} {T B M : Nat} (h1 : T + 1 + 1 < M) (h2 : M < B) : OwnM (fun k => k = M) B (ClI s T B) :=
  fun pre W W' row hs hg hr => by
    obtain ⟨⟨l, v, e1, e2, e3⟩, b1, b2, b3⟩ := hs
    exact ⟨⟨l, v, e1, blk_ownM e2 (by omega) hg hr, own_ownM e3 (fun k hk => by omega) hg hr⟩, blk_ownM b1 (by omega) hg hr, blk_ownM b2 (by omega) hg hr, Nat.le_trans b3 hg.size⟩
theorem clX_own {s : ByteArray} {T B M : Nat} (h1 : T + 1 < M) (c : Code) : OwnM (fun k => k = M) B (ClX s T c) :=
  fun pre W W' row hs hg hr => ⟨hs.1, hs.2.1, blk_ownM hs.2.2.1 (by omega) hg hr, blk_ownM hs.2.2.2 (by omega) hg hr⟩
end Go.Proofs.YthnnnlbdbkdcaaaDoor
/- The contract of the reference's Clean. -/
set_option linter.unusedVariables false
set_option linter.unusedSimpArgs false
namespace Sw
open Go Go.RowKit
theorem ix_mem (l : List UInt8) (c : UInt8) : decide (0 ≤ Lib.indexByte l c) = decide (c ∈ l) := by
  rw [decide_eq_decide]
  constructor
  · intro h
    obtain ⟨i, hi⟩ := Int.eq_ofNat_of_zero_le h
    obtain ⟨h1, _⟩ := Lib.indexByte_some hi
    exact List.mem_of_getElem? h1
  · intro h
    by_cases h0 : 0 ≤ Lib.indexByte l c
    · exact h0
    · have hge := Lib.indexByte_ge l c
      obtain ⟨k, hk, hke⟩ := List.getElem_of_mem h
      exact absurd (by rw [List.getElem?_eq_getElem hk, hke]) (Lib.indexByte_none (show Lib.indexByte l c = -1 by omega) k)
theorem pre_47 (l : List UInt8) : Lib.hasPrefix l [47] = decide (l.head? = some 47) := by
  cases l with
  | nil => rfl
  | cons a l =>
    show List.isPrefixOf [47] (a :: l) = _
    by_cases h : a = 47
    · subst h; simp [List.isPrefixOf]
    · rw [decide_eq_false (by simpa using h)]
      simp [List.isPrefixOf]
      exact fun e => h e.symm
theorem bad0_eq (s : ByteArray) : bad0 s = (decide (s.data.toList.head? = some 47) || decide ((0 : UInt8) ∈ s.data.toList)) := by
  unfold bad0
  rw [pre_47, ix_mem]
theorem clStep_no {l l' : List ByteArray} {x : ByteArray} (hl : ∀ y ∈ l, hasSl y = false) (hx : hasSl x = false) (h : clStep l x = some l') : ∀ y ∈ l', hasSl y = false := by
  unfold clStep at h
  split at h
  · injection h with h; subst h; exact hl
  · split at h
    · split at h
      · cases h
      · injection h with h; subst h; exact fun y hy => hl y (List.dropLast_subset l hy)
    · injection h with h; subst h
      intro y hy
      rcases List.mem_append.1 hy with h | h
      · exact hl y h
      · rw [List.mem_singleton] at h; rw [h]; exact hx
theorem clFold_no : ∀ (xs l l' : List ByteArray), (∀ y ∈ l, hasSl y = false) → (∀ y ∈ xs, hasSl y = false) → clFold l xs = some l' → ∀ y ∈ l', hasSl y = false
  | [], l, l', hl, _, h => by
    have h : some l = some l' := h
    injection h with h
    subst h
    exact hl
  | x :: xs, l, l', hl, hx, h => by
    have h' : (match clStep l x with | none => none | some l' => clFold l' xs) = some l' := h
    cases hs : clStep l x with
    | none => rw [hs] at h'; cases h'
    | some l2 =>
      rw [hs] at h'
      exact clFold_no xs l2 l' (clStep_no hl (hx x (by simp)) hs) (fun y hy => hx y (List.mem_cons_of_mem _ hy)) h'
theorem spS_no (s : ByteArray) : ∀ y ∈ spS s, hasSl y = false := by
  intro y hy
  unfold spS at hy
  obtain ⟨a, ha, rfl⟩ := List.mem_map.1 hy
  unfold hasSl
  rw [data_mkB]
  exact decide_eq_false (spL_no _ a ha)
theorem rightL_nil : rightL [] = false := by decide
/-- what comes of the parts that are left -/
theorem clean_some {s : ByteArray} {l : List ByteArray} (h : cleanO s = some l) : (rightL (jnL (datL l)) = true → l ≠ [] ∧ cleanS s = mkB (jnL (datL l)) ∧ cleanB s = true) ∧ (rightL (jnL (datL l)) = false → cleanS s = ⟨#[]⟩ ∧ cleanB s = false) := by
  have hno : l.any hasSl = false := by
    unfold cleanO at h
    split at h
    · cases h
    · rw [List.any_eq_false]
      intro y hy
      rw [clFold_no _ _ _ (by simp) (spS_no s) h y hy]
      simp
  have e1 : cleanS s = joinS l := by unfold cleanS; rw [h]
  have e2 : cleanB s = joinB l := by unfold cleanB; rw [h]
  rw [e1, e2]
  unfold joinS joinB
  rw [hno]
  refine ⟨fun hr => ⟨fun e => ?_, ?_, ?_⟩, fun hr => ⟨?_, ?_⟩⟩
  · subst e
    have : rightL (jnL (datL [])) = rightL [] := rfl
    rw [this, rightL_nil] at hr
    cases hr
  all_goals rw [hr]; rfl
end Sw
namespace Go.Proofs.YthnnnlbdbkdcaaaDoor
open Go Go.RowKit
open Sw
end Go.Proofs.YthnnnlbdbkdcaaaDoor
/- The walk of NameCleans. -/
set_option linter.unusedVariables false
set_option linter.unusedSimpArgs false
namespace Sw
open Go Go.RowKit
theorem rightL_parts {p : List UInt8} (h : rightL p = true) : ∀ x ∈ spL p, partL x = true := by
  unfold rightL at h
  rw [Bool.and_eq_true] at h
  exact fun x hx => List.all_eq_true.1 h.2 x hx
theorem partL_facts {x : List UInt8} (h : partL x = true) : (∀ b ∈ x, okB b = true) ∧ x ≠ [] ∧ x ≠ [46] ∧ x ≠ [46, 46] := by
  unfold partL at h
  simp only [Bool.and_eq_true, decide_eq_true_eq, List.all_eq_true] at h
  refine ⟨h.1.1.1.1, fun e => ?_, h.1.1.2, h.1.2⟩
  subst e
  have := h.1.1.1.2.1
  simp at this
theorem mkB_inj {a b : List UInt8} (h : mkB a = mkB b) : a = b := by
  have := congrArg (fun x : ByteArray => x.data.toList) h
  simpa [data_mkB] using this
theorem clFold_all : ∀ (xs l : List ByteArray), (∀ x ∈ xs, x ≠ ⟨#[]⟩ ∧ x ≠ mkB [46] ∧ x ≠ mkB [46, 46]) → clFold l xs = some (l ++ xs)
  | [], l, _ => by rw [List.append_nil]; rfl
  | x :: xs, l, h => by
    obtain ⟨h1, h2, h3⟩ := h x (by simp)
    have hs : clStep l x = some (l ++ [x]) := by
      unfold clStep
      rw [if_neg (fun e => e.elim h1 h2), if_neg h3]
    show (match clStep l x with | none => none | some l' => clFold l' xs) = _
    rw [hs]
    show clFold (l ++ [x]) xs = _
    rw [clFold_all xs _ (fun y hy => h y (List.mem_cons_of_mem _ hy)), List.append_assoc]
    rfl
theorem jn_spS (s : ByteArray) : jnL (datL (spS s)) = s.data.toList := by
  have : datL (spS s) = spL s.data.toList := spS_data s
  rw [this, jnL_spL]
theorem jnL_mem {b : UInt8} : ∀ (l : List (List UInt8)), b ∈ jnL l → b = 47 ∨ ∃ x ∈ l, b ∈ x
  | [], h => by simp [jnL] at h
  | [x], h => .inr ⟨x, by simp, h⟩
  | x :: y :: l, h => by
    rw [jnL_cons x _ (by simp), List.mem_append, List.mem_cons] at h
    rcases h with h | h | h
    · exact .inr ⟨x, by simp, h⟩
    · exact .inl h
    · rcases jnL_mem (y :: l) h with h | ⟨z, hz, hb⟩
      · exact .inl h
      · exact .inr ⟨z, List.mem_cons_of_mem _ hz, hb⟩
/-- what is right is its own -/
theorem clean_right {s : ByteArray} (h : rightL s.data.toList = true) : cleanS s = s ∧ cleanB s = true := by
  have hp := rightL_parts h
  have hb : bad0 s = false := by
    rw [bad0_eq, Bool.or_eq_false_iff]
    constructor
    · refine decide_eq_false fun e => ?_
      cases hd : s.data.toList with
      | nil => rw [hd] at e; cases e
      | cons a t =>
        rw [hd] at e hp
        injection e with e
        subst e
        rw [spL_slash] at hp
        exact (partL_facts (hp [] (by simp))).2.1 rfl
    · refine decide_eq_false fun e => ?_
      rw [← jnL_spL s.data.toList] at e
      rcases jnL_mem _ e with e | ⟨x, hx, he⟩
      · cases e
      · exact absurd ((partL_facts (hp x hx)).1 0 he) (by decide)
  have ho : cleanO s = some (spS s) := by
    unfold cleanO
    rw [hb, if_neg (by simp), clFold_all]
    · rfl
    · intro x hx
      unfold spS at hx
      obtain ⟨a, ha, rfl⟩ := List.mem_map.1 hx
      obtain ⟨_, f1, f2, f3⟩ := partL_facts (hp a ha)
      exact ⟨fun e => f1 (mkB_inj e), fun e => f2 (mkB_inj e), fun e => f3 (mkB_inj e)⟩
  have hc := clean_some ho
  rw [jn_spS] at hc
  obtain ⟨_, h1, h2⟩ := hc.1 h
  rw [mkB_data] at h1
  exact ⟨h1, h2⟩
theorem clean_out (s : ByteArray) : (cleanB s = true → rightL (cleanS s).data.toList = true) ∧ (cleanB s = false → cleanS s = ⟨#[]⟩) := by
  cases ho : cleanO s with
  | none =>
    have h1 : cleanS s = ⟨#[]⟩ := by unfold cleanS; rw [ho]
    have h2 : cleanB s = false := by unfold cleanB; rw [ho]
    rw [h1, h2]
    exact ⟨fun h => (by cases h), fun _ => rfl⟩
  | some l =>
    have hc := clean_some ho
    cases hr : rightL (jnL (datL l)) with
    | true =>
      obtain ⟨_, h1, h2⟩ := hc.1 hr
      rw [h1, h2, data_mkB]
      exact ⟨fun _ => hr, fun h => by cases h⟩
    | false =>
      obtain ⟨h1, h2⟩ := hc.2 hr
      rw [h1, h2]
      exact ⟨fun h => (by cases h), fun _ => rfl⟩
theorem clean_size (s : ByteArray) : (cleanS s).size ≤ s.size + 1 := by
  cases ho : cleanO s with
  | none =>
    have h1 : cleanS s = ⟨#[]⟩ := by unfold cleanS; rw [ho]
    rw [h1]
    exact Nat.zero_le _
  | some l =>
    have hw : wt l ≤ s.size + 1 := by
      have h := ho
      unfold cleanO at h
      split at h
      · cases h
      · have := clFold_wt _ _ _ h
        rw [spS_wt] at this
        have h0 : wt [] = 0 := rfl
        omega
    have hj := wt_jn l
    have hc := clean_some ho
    cases hr : rightL (jnL (datL l)) with
    | true => rw [(hc.1 hr).2.1, mkB_size]; omega
    | false => rw [(hc.2 hr).1]; exact Nat.zero_le _
def exP : ByteArray := ⟨#[97, 47, 46, 47, 98, 47, 46, 46, 47, 99, 47]⟩
theorem ex_clean : cleanS exP = mkB [97, 47, 99] ∧ cleanB exP = true := by
  constructor
  · kernel_rfl
  · kernel_rfl
end Sw
namespace Go.Proofs.YthnnnlbdbkdcaaaDoor
open Go Go.ChangeShapes Go.WideShapes Go.ChangeAt Go.RowKit
open Go.ChangeMaps (open_string shut_string)
open Sw
end Go.Proofs.YthnnnlbdbkdcaaaDoor
/- Plain laws of name.Parent, Base, Ups. -/
set_option linter.unusedVariables false
set_option linter.unusedSimpArgs false
namespace Sw
open Go Go.RowKit
open Go.Proofs.YthnnnlbdbkdcaaaDoor (partsS)
theorem spL_last : ∀ (a r : List UInt8), (47 : UInt8) ∉ r → spL (a ++ 47 :: r) = spL a ++ [r]
  | [], r, h => by rw [List.nil_append, spL_slash, spL_none r h]; rfl
  | b :: a, r, h => by
    have ih := spL_last a r h
    rw [List.cons_append, spL, ih, spL]
    split
    · rfl
    · cases hs : spL a with
      | nil => exact absurd hs (spL_ne a)
      | cons x t => rfl
def parentS (s : ByteArray) : ByteArray := mkB (jnL (datL (partsS s).dropLast))
def baseS (s : ByteArray) : ByteArray := (partsS s).getLastD ⟨#[]⟩
/-- the ups of a path, the shortest first -/
def upsS (s : ByteArray) : List ByteArray := (List.range ((partsS s).length - 1)).map fun k => mkB (jnL (datL ((partsS s).take (k + 1))))
theorem partsS_right {s : ByteArray} (h : rightL s.data.toList = true) : partsS s = spS s := by
  unfold partsS
  rw [if_pos h]
theorem partsS_not {s : ByteArray} (h : rightL s.data.toList = false) : partsS s = [] := by
  unfold partsS
  rw [if_neg (by rw [h]; simp)]
theorem parent_not {s : ByteArray} (h : rightL s.data.toList = false) : parentS s = ⟨#[]⟩ ∧ baseS s = ⟨#[]⟩ := by
  unfold parentS baseS
  rw [partsS_not h]
  exact ⟨rfl, rfl⟩
/-- the last slash of a text -/
theorem last_hit {s : ByteArray} {i : Nat} (hi : i < s.size) (h1 : ((s.data[i]!).toNat : Int) = 47) (h2 : ∀ j, i < j → j < s.size → ((s.data[j]!).toNat : Int) ≠ 47) : spS s = spS (s.extract 0 i) ++ [s.extract (i + 1) s.size] := by
  have hl : s.data.toList.length = s.size := by simp
  have hget : ∀ j (h : j < s.size), s.data[j]! = s.data.toList[j]'(by omega) := fun j h => by
    rw [getElem!_pos s.data j h]
    simp
  have hno : (47 : UInt8) ∉ s.data.toList.drop (i + 1) := by
    intro hm
    obtain ⟨k, hk, hke⟩ := List.getElem_of_mem hm
    rw [List.length_drop] at hk
    rw [List.getElem_drop] at hke
    refine h2 (i + 1 + k) (by omega) (by omega) ?_
    rw [hget _ (by omega), hke]
    rfl
  have he : s.data.toList[i]'(by omega) = 47 := by
    rw [hget i hi] at h1
    have h47 : (s.data.toList[i]'(by omega)).toNat = 47 := by omega
    exact UInt8.toNat_inj.1 (h47.trans rfl)
  unfold spS
  have hd : s.data.toList = s.data.toList.take i ++ 47 :: s.data.toList.drop (i + 1) := by
    conv => lhs; rw [← List.take_append_drop i s.data.toList]
    rw [List.drop_eq_getElem_cons (by omega), he]
  conv => lhs; rw [hd]
  rw [spL_last _ _ hno, List.map_append, List.map_singleton, ext_take]
  congr 1
  rw [← ext_drop, mkB_data]
theorem last_miss {s : ByteArray} (h : ∀ j, j < s.size → ((s.data[j]!).toNat : Int) ≠ 47) : spS s = [s] := by
  have hl : s.data.toList.length = s.size := by simp
  have hno : (47 : UInt8) ∉ s.data.toList := by
    intro hm
    obtain ⟨k, hk, hke⟩ := List.getElem_of_mem hm
    refine h k (by omega) ?_
    rw [getElem!_pos s.data k (by show k < s.size; omega)]
    have : s.data[k]'(by show k < s.size; omega) = s.data.toList[k]'hk := by simp
    rw [this, hke]
    rfl
  unfold spS
  rw [spL_none _ hno, List.map_singleton, mkB_data]
theorem rightL_len {p : List UInt8} (h : rightL p = true) : p.length ≤ 200 ∧ (spL p).length ≤ 12 ∧ (spL p).headD [] ≠ resL := by
  unfold rightL at h
  simp only [Bool.and_eq_true, decide_eq_true_eq] at h
  exact ⟨h.1.1.1, h.1.1.2, h.1.2⟩
/-- the first parts of a path are a path -/
theorem right_take {s : ByteArray} (h : rightL s.data.toList = true) (k : Nat) (hk : 1 ≤ k) : rightL (jnL (datL ((spS s).take k))) = true ∧ spS (mkB (jnL (datL ((spS s).take k)))) = (spS s).take k := by
  have hp := rightL_parts h
  obtain ⟨h1, h2, h3⟩ := rightL_len h
  have hd : datL ((spS s).take k) = (spL s.data.toList).take k := by
    unfold datL
    rw [List.map_take]
    congr 1
    exact spS_data s
  have hne : (spL s.data.toList).take k ≠ [] := by
    intro e
    have := congrArg List.length e
    rw [List.length_take, List.length_nil] at this
    have hpos := List.length_pos_iff.2 (spL_ne s.data.toList)
    omega
  have hsp : spL (jnL ((spL s.data.toList).take k)) = (spL s.data.toList).take k := spL_jnL _ hne (fun x hx => spL_no _ x (List.mem_of_mem_take hx))
  rw [hd]
  constructor
  · unfold rightL
    rw [hsp]
    have hl : (jnL ((spL s.data.toList).take k)).length ≤ 200 := by
      have := jnL_take_le (spL s.data.toList) k
      rw [jnL_spL] at this
      omega
    have hh : ((spL s.data.toList).take k).headD [] = (spL s.data.toList).headD [] := by
      obtain ⟨k', rfl⟩ : ∃ k', k = k' + 1 := ⟨k - 1, by omega⟩
      cases spL s.data.toList <;> rfl
    rw [decide_eq_true hl, decide_eq_true (show ((spL s.data.toList).take k).length ≤ 12 by rw [List.length_take]; omega), hh, decide_eq_true h3]
    simp only [Bool.true_and, List.all_eq_true]
    exact fun x hx => hp x (List.mem_of_mem_take hx)
  · unfold spS
    rw [data_mkB, hsp, ← List.map_take]
/-- where a walk up a path stands -/
def pAt (U : List ByteArray) (k : Nat) : ByteArray := if h : 0 < k ∧ k ≤ U.length then U[k - 1]'(by omega) else ⟨#[]⟩
theorem upsS_len (s : ByteArray) : (upsS s).length = (partsS s).length - 1 := by
  unfold upsS
  rw [List.length_map, List.length_range]
theorem upsS_at (s : ByteArray) (k : Nat) (h : k < (upsS s).length) : (upsS s)[k] = mkB (jnL (datL ((partsS s).take (k + 1)))) := by
  have hl := upsS_len s
  have h2 : (upsS s)[k]? = some (mkB (jnL (datL ((partsS s).take (k + 1))))) := by
    unfold upsS
    rw [List.getElem?_map, List.getElem?_range (by omega)]
    rfl
  exact (List.getElem?_eq_some_iff.1 h2).2
theorem ups_pAt (s : ByteArray) (k : Nat) (h : k ≤ (upsS s).length) : pAt (upsS s) k = mkB (jnL (datL ((partsS s).take k))) := by
  unfold pAt
  by_cases h0 : 0 < k
  · rw [dif_pos ⟨h0, h⟩, upsS_at, show k - 1 + 1 = k by omega]
  · rw [dif_neg (by omega), show k = 0 by omega]
    rfl
theorem ups_start (s : ByteArray) : parentS s = pAt (upsS s) (upsS s).length := by
  rw [ups_pAt s _ (Nat.le_refl _), upsS_len]
  unfold parentS
  rw [List.dropLast_eq_take]
theorem ups_step (s : ByteArray) (k : Nat) (h : k < (upsS s).length) : parentS (upsS s)[k] = pAt (upsS s) k ∧ (upsS s)[k].size ≤ 200 ∧ rightL (upsS s)[k].data.toList = true := by
  have hlen := upsS_len s
  have hr : rightL s.data.toList = true := by
    cases hr : rightL s.data.toList with
    | true => rfl
    | false => rw [partsS_not hr, List.length_nil] at hlen; omega
  have hps := partsS_right hr
  obtain ⟨h1, h2⟩ := right_take hr (k + 1) (by omega)
  rw [ups_pAt s k (by omega), upsS_at, hps]
  rw [hps] at hlen
  have hq : partsS (mkB (jnL (datL ((spS s).take (k + 1))))) = (spS s).take (k + 1) := by
    rw [partsS_right (by rw [data_mkB]; exact h1), h2]
  refine ⟨?_, ?_, by rw [data_mkB]; exact h1⟩
  · unfold parentS
    rw [hq, List.dropLast_eq_take, List.take_take, List.length_take]
    congr 4
    omega
  · rw [mkB_size]
    exact (rightL_len h1).1
theorem pAt_succ (U : List ByteArray) (k : Nat) (h : k < U.length) : pAt U (k + 1) = U[k] := by
  unfold pAt
  rw [dif_pos ⟨by omega, by omega⟩]
  rfl
theorem right_pos {s : ByteArray} (h : rightL s.data.toList = true) : 0 < s.size := by
  by_cases h0 : s.size = 0
  · have : s.data.toList = [] := List.length_eq_zero_iff.1 (by simpa using h0)
    rw [this, rightL_nil] at h
    cases h
  · omega
end Sw
