/- Several texts, joined for the limit of sixty files; each one opens with its own comment. -/
import Derived.Test.YtcpmhjealiajpaaGreatDoorJoin4
import Derived.Maps.AppendAt
import Derived.Test.YtcpmhjealiajpaaGreatDoorJoin1
import Derived.Lib.LastIndexByte
import Derived.Lib.Bytealg
import Derived.Lib.EndianMore
/- Plain laws of name.Clean. -/
set_option linter.unusedVariables false
set_option linter.unusedSimpArgs false
namespace Sw
open Go Go.RowKit
/-- a part more, in a path that is made clean -/
def clStep (l : List ByteArray) (x : ByteArray) : Option (List ByteArray) := if x = ⟨#[]⟩ ∨ x = mkB [46] then some l else if x = mkB [46, 46] then (if l = [] then none else some l.dropLast) else some (l ++ [x])
def clFold : List ByteArray → List ByteArray → Option (List ByteArray)
  | l, [] => some l
  | l, x :: xs => match clStep l x with
    | none => none
    | some l' => clFold l' xs
theorem clFold_snoc (x : ByteArray) : ∀ (xs l : List ByteArray), clFold l (xs ++ [x]) = (clFold l xs).bind fun l' => clStep l' x
  | [], l => by
    show (match clStep l x with | none => none | some l' => clFold l' []) = clStep l x
    cases clStep l x <;> rfl
  | y :: xs, l => by
    show (match clStep l y with | none => none | some l' => clFold l' (xs ++ [x])) = (match clStep l y with | none => none | some l' => clFold l' xs).bind fun l' => clStep l' x
    cases clStep l y with
    | none => rfl
    | some l' => exact clFold_snoc x xs l'
theorem clFold_none (l : List ByteArray) (xs : List ByteArray) : ∀ (pre : List ByteArray) , clFold l pre = none → clFold l (pre ++ xs) = none := by
  intro pre
  induction pre generalizing l with
  | nil => intro h; cases h
  | cons y pre ih =>
    intro h
    show (match clStep l y with | none => none | some l' => clFold l' (pre ++ xs)) = none
    have h' : (match clStep l y with | none => none | some l' => clFold l' pre) = none := h
    cases hs : clStep l y with
    | none => rfl
    | some l' =>
      rw [hs] at h'
      exact ih l' h'
def wt (l : List ByteArray) : Nat := (l.map fun x => x.size + 1).sum
theorem wt_cons (x : ByteArray) (l : List ByteArray) : wt (x :: l) = x.size + 1 + wt l := by simp [wt]
theorem wt_snoc (l : List ByteArray) (x : ByteArray) : wt (l ++ [x]) = wt l + (x.size + 1) := by simp [wt]
theorem wt_drop (l : List ByteArray) : wt l.dropLast ≤ wt l := by
  by_cases h : l = []
  · subst h; simp
  · have := wt_snoc l.dropLast (l.getLast h)
    rw [List.dropLast_concat_getLast] at this
    omega
theorem clStep_wt {l l' : List ByteArray} {x : ByteArray} (h : clStep l x = some l') : wt l' ≤ wt l + (x.size + 1) := by
  unfold clStep at h
  split at h
  · injection h with h; subst h; omega
  · split at h
    · split at h
      · cases h
      · injection h with h; subst h; have := wt_drop l; omega
    · injection h with h; subst h; rw [wt_snoc]; omega
theorem clFold_wt : ∀ (xs l l' : List ByteArray), clFold l xs = some l' → wt l' ≤ wt l + wt xs
  | [], l, l', h => by
    have h : some l = some l' := h
    injection h with h
    subst h
    omega
  | x :: xs, l, l', h => by
    have h' : (match clStep l x with | none => none | some l' => clFold l' xs) = some l' := h
    cases hs : clStep l x with
    | none => rw [hs] at h'; cases h'
    | some l2 =>
      rw [hs] at h'
      have h1 := clStep_wt hs
      have h2 := clFold_wt xs l2 l' h'
      rw [wt_cons]
      omega
theorem clStep_len {l l' : List ByteArray} {x : ByteArray} (h : clStep l x = some l') : l'.length ≤ l.length + 1 := by
  unfold clStep at h
  split at h
  · injection h with h; subst h; omega
  · split at h
    · split at h
      · cases h
      · injection h with h; subst h; rw [List.length_dropLast]; omega
    · injection h with h; subst h; simp
theorem clFold_len : ∀ (xs l l' : List ByteArray), clFold l xs = some l' → l'.length ≤ l.length + xs.length
  | [], l, l', h => by
    have h : some l = some l' := h
    injection h with h
    subst h
    simp
  | x :: xs, l, l', h => by
    have h' : (match clStep l x with | none => none | some l' => clFold l' xs) = some l' := h
    cases hs : clStep l x with
    | none => rw [hs] at h'; cases h'
    | some l2 =>
      rw [hs] at h'
      have h1 := clStep_len hs
      have h2 := clFold_len xs l2 l' h'
      rw [List.length_cons]
      omega
theorem spL_wt : ∀ l : List UInt8, ((spL l).map fun x => x.length + 1).sum = l.length + 1
  | [] => rfl
  | b :: l => by
    have ih := spL_wt l
    rw [spL]
    split
    · rw [List.map_cons, List.sum_cons, ih, List.length_cons, List.length_nil]; omega
    · rw [← spL_head l, List.map_cons, List.sum_cons] at ih
      rw [List.map_cons, List.sum_cons, List.length_cons, List.length_cons]
      omega
theorem spS_wt (s : ByteArray) : wt (spS s) = s.size + 1 := by
  unfold wt spS
  rw [List.map_map]
  have h : (spL s.data.toList).map ((fun x : ByteArray => x.size + 1) ∘ mkB) = (spL s.data.toList).map fun x => x.length + 1 := List.map_congr_left fun a _ => by
    show (mkB a).size + 1 = a.length + 1
    rw [mkB_size]
  rw [h, spL_wt]
  simp
theorem wt_jn : ∀ l : List ByteArray, (jnL (datL l)).length ≤ wt l
  | [] => by simp [datL, jnL, wt]
  | [x] => by
    have h : x.data.toList.length = x.size := by simp
    show x.data.toList.length ≤ _
    rw [wt_cons]; omega
  | x :: y :: l => by
    have ih := wt_jn (y :: l)
    have h : x.data.toList.length = x.size := by simp
    have e : jnL (datL (x :: y :: l)) = x.data.toList ++ 47 :: jnL (datL (y :: l)) := jnL_cons _ _ (by simp [datL])
    rw [e, wt_cons, List.length_append, List.length_cons]
    omega
theorem wt_len : ∀ l : List ByteArray, l.length ≤ wt l
  | [] => by simp [wt]
  | x :: l => by
    have := wt_len l
    rw [wt_cons, List.length_cons]
    omega
/-- what is refused at once -/
def bad0 (s : ByteArray) : Bool := Lib.hasPrefix s.data.toList [47] || decide (0 ≤ Lib.indexByte s.data.toList 0)
def cleanO (s : ByteArray) : Option (List ByteArray) := if bad0 s = true then none else clFold [] (spS s)
def cleanS (s : ByteArray) : ByteArray := match cleanO s with
  | none => ⟨#[]⟩
  | some l => joinS l
def cleanB (s : ByteArray) : Bool := match cleanO s with
  | none => false
  | some l => joinB l
theorem own_same {w w' : World} {base : Nat} {e : TypeId} {size n : Nat} {v : Value} {xs : List Value} (h : w.ownsRow base e size v n xs) (he : ∀ k, some k = v.ownBlock → w'.heap[k]? = w.heap[k]?) : w'.ownsRow base e size v n xs := by
  refine ⟨h.1, ?_⟩
  rcases h.2 with h2 | ⟨g', cap, cur, rfl, h3, h4, h5⟩
  · exact .inl h2
  · exact .inr ⟨g', cap, cur, rfl, h3, (he g' rfl).trans h4, h5⟩
theorem own_pop {w : World} {base : Nat} {e : TypeId} {v : Value} {n : Nat} {xs : List Value} {x : Value} (h : w.ownsRow base e 1 v (n + 1) (xs ++ [x])) : ∃ g cap, v = .slice (some ⟨g, 0, none⟩) (n + 1) cap ∧ n + 1 ≤ cap ∧ cap ≤ maxLen ∧ w.ownsRow base e 1 (.slice (some ⟨g, 0, none⟩) n cap) n xs := by
  have hl := h.1
  rw [List.length_append, List.length_singleton] at hl
  rcases h.2 with ⟨_, h0⟩ | ⟨g, cap, cur, rfl, hb, hh, hc, hm, hsz, hx⟩
  · omega
  · refine ⟨g, cap, rfl, hc, hm, by omega, .inr ⟨g, cap, cur, rfl, hb, hh, by omega, hm, hsz, ?_⟩⟩
    have hxl : xs.length = n * 1 := by omega
    have h2 := congrArg (List.take (n * 1)) hx
    rw [List.take_take, Nat.min_eq_left (by omega), List.take_append_of_le_length (by omega), List.take_of_length_le (l := xs) (by omega)] at h2
    exact h2
theorem own_ownM {W W' : World} {row : Option Nat} {Mine : Nat → Prop} {B base : Nat} {e : TypeId} {size n : Nat} {v : Value} {xs : List Value} (h : W.ownsRow base e size v n xs) (hm : ∀ k, Mine k → k < base) (hg : W.grownBy W' row) (hr : ∀ r, row = some r → Mine r ∨ (B ≤ r ∧ ∃ o : Obj, W.heap[r]? = some o ∧ o.isCells = false)) : W'.ownsRow base e size v n xs := by
  refine own_same h fun k hk => ?_
  rcases h.2 with ⟨rfl, _⟩ | ⟨g, cap, cur, rfl, hb, hh, _⟩
  · cases hk
  · injection hk with hk
    subst hk
    refine hg.block k (Array.getElem?_eq_some_iff.1 hh).1 (fun e => ?_)
    rcases hr k e.symm with h1 | ⟨_, o, ho, hc⟩
    · have := hm k h1; omega
    · rw [hh] at ho; cases ho; cases hc
theorem keeps_own {W W' : World} {base : Nat} {e : TypeId} {size n : Nat} {v : Value} {xs : List Value} (h : W.ownsRow base e size v n xs) (hg : W.grownBy W' v.ownBlock) : KeepsOthers W W' :=
  ⟨hg.size, fun k o hk hc => by
    refine (hg.block k (Array.getElem?_eq_some_iff.1 hk).1 (fun e => ?_)).trans hk
    rcases h.2 with ⟨rfl, _⟩ | ⟨g, cap, cur, rfl, hb, hh, _⟩
    · cases e
    · injection e with e
      subst e
      rw [hh] at hk
      cases hk
      cases hc⟩
end Sw
/- The contract of name.Clean. -/
set_option linter.unusedVariables false
set_option linter.unusedSimpArgs false
namespace Go.Proofs.YtcpmhjealiajpaaGreatDoor
open Go Go.RowKit Go.Shelf
open Sw
attribute [local go_sem] Oper.semAt_some
theorem res_str_bool {P : Program} {fn : Func} {p q : Tmp} {ty t1 : TypeId} (h : fn.results = #[.cell p ty, .cell q t1]) (tmps : Array Value) (w : World) (g g1 : Nat) (u u1 : TypeId) (s : ByteArray) (b : Bool)
    (hp : tmps.getD p undef = .pointer (some ⟨g, 0, none⟩)) (hq : tmps.getD q undef = .pointer (some ⟨g1, 0, none⟩)) (hg : Blk w g u #[.string s]) (hg1 : Blk w g1 u1 #[.bool b]) (hu : P.underlying ty = some .string) (hu1 : P.underlying t1 = some .bool) :
    (results fn tmps).run P w = .ok (.tuple #[.string s, .bool b]) w := by
  have hp' : tmps[p]?.getD undef = .pointer (some ⟨g, 0, none⟩) := by simpa using hp
  have hq' : tmps[q]?.getD undef = .pointer (some ⟨g1, 0, none⟩) := by simpa using hq
  have c1 : w.cell? ⟨g, 0, none⟩ = some (.string s) := by have := hg.cell 0; simpa using this
  have c2 : w.cell? ⟨g1, 0, none⟩ = some (.bool b) := by have := hg1.cell 0; simpa using this
  have l1 : (loadVar ty ⟨g, 0, none⟩).run P w = .ok (.string s) w := by simp [loadVar, isAgg, run_underlying hu, run_load, c1]
  have l2 : (loadVar t1 ⟨g1, 0, none⟩).run P w = .ok (.bool b) w := by simp [loadVar, isAgg, run_underlying hu1, run_load, c2]
  simp [results, h, hp', hq', asAddr, l1, l2]
theorem str_empty (x : ByteArray) : x.toList.isEmpty = decide (x = ⟨#[]⟩) := by
  rw [ByteArray.toList_eq]
  by_cases h : x = ⟨#[]⟩
  · subst h; rfl
  · rw [decide_eq_false h]
    cases hd : x.data.toList with
    | nil => exact absurd (by rw [← mkB_data x, hd]; rfl) h
    | cons a t => rfl
theorem str_is (x : ByteArray) (l : List UInt8) : (x.toList == l) = decide (x = mkB l) := by
  rw [str_eq_iff, decide_eq_decide]
  constructor
  · intro h; rw [← mkB_data x, h]
  · intro h; rw [h, data_mkB]
/-- what Clean knows between two rounds -/
def ClI (s : ByteArray) (T B : Nat) (pre : List (Pc s.size)) (W : World) : Prop :=
  (∃ l v, clFold [] (pre.map (·.1)) = some l ∧ Blk W (T + 1 + 1) 78 #[v] ∧ W.ownsRow B 9 1 v l.length (l.flatMap bE)) ∧ Blk W T 9 #[.string ⟨#[]⟩] ∧ Blk W (T + 1) 4 #[.bool false] ∧ B ≤ W.heap.size
/-- how Clean leaves a round -/
def ClX (s : ByteArray) (T : Nat) (c : Code) (pre : List (Pc s.size)) (W : World) : Prop :=
  clFold [] (pre.map (·.1)) = none ∧ c = .ret ∧ Blk W T 9 #[.string ⟨#[]⟩] ∧ Blk W (T + 1) 4 #[.bool false]
theorem clI_own {s : ByteArray} {T B M : Nat} (h1 : T + 1 + 1 < M) (h2 : M < B) : OwnM (fun k => k = M) B (ClI s T B) :=
  fun pre W W' row hs hg hr => by
    obtain ⟨⟨l, v, e1, e2, e3⟩, b1, b2, b3⟩ := hs
    exact ⟨⟨l, v, e1, blk_ownM e2 (by omega) hg hr, own_ownM e3 (fun k hk => by omega) hg hr⟩, blk_ownM b1 (by omega) hg hr, blk_ownM b2 (by omega) hg hr, Nat.le_trans b3 hg.size⟩
theorem clX_own {s : ByteArray} {T B M : Nat} (h1 : T + 1 < M) (c : Code) : OwnM (fun k => k = M) B (ClX s T c) :=
  fun pre W W' row hs hg hr => ⟨hs.1, hs.2.1, blk_ownM hs.2.2.1 (by omega) hg hr, blk_ownM hs.2.2.2 (by omega) hg hr⟩
end Go.Proofs.YtcpmhjealiajpaaGreatDoor
/- The contract of the reference's Clean. -/
set_option linter.unusedVariables false
set_option linter.unusedSimpArgs false
namespace Sw
open Go Go.RowKit
theorem ix_mem (l : List UInt8) (c : UInt8) : decide (0 ≤ Lib.indexByte l c) = decide (c ∈ l) := by
  rw [decide_eq_decide]
  constructor
  · intro h
    obtain ⟨i, hi⟩ := Int.eq_ofNat_of_zero_le h
    obtain ⟨h1, _⟩ := Lib.indexByte_some hi
    exact List.mem_of_getElem? h1
  · intro h
    by_cases h0 : 0 ≤ Lib.indexByte l c
    · exact h0
    · have hge := Lib.indexByte_ge l c
      obtain ⟨k, hk, hke⟩ := List.getElem_of_mem h
      exact absurd (by rw [List.getElem?_eq_getElem hk, hke]) (Lib.indexByte_none (show Lib.indexByte l c = -1 by omega) k)
theorem pre_47 (l : List UInt8) : Lib.hasPrefix l [47] = decide (l.head? = some 47) := by
  cases l with
  | nil => rfl
  | cons a l =>
    show List.isPrefixOf [47] (a :: l) = _
    by_cases h : a = 47
    · subst h; simp [List.isPrefixOf]
    · rw [decide_eq_false (by simpa using h)]
      simp [List.isPrefixOf]
      exact fun e => h e.symm
theorem bad0_eq (s : ByteArray) : bad0 s = (decide (s.data.toList.head? = some 47) || decide ((0 : UInt8) ∈ s.data.toList)) := by
  unfold bad0
  rw [pre_47, ix_mem]
theorem clStep_no {l l' : List ByteArray} {x : ByteArray} (hl : ∀ y ∈ l, hasSl y = false) (hx : hasSl x = false) (h : clStep l x = some l') : ∀ y ∈ l', hasSl y = false := by
  unfold clStep at h
  split at h
  · injection h with h; subst h; exact hl
  · split at h
    · split at h
      · cases h
      · injection h with h; subst h; exact fun y hy => hl y (List.dropLast_subset l hy)
    · injection h with h; subst h
      intro y hy
      rcases List.mem_append.1 hy with h | h
      · exact hl y h
      · rw [List.mem_singleton] at h; rw [h]; exact hx
theorem clFold_no : ∀ (xs l l' : List ByteArray), (∀ y ∈ l, hasSl y = false) → (∀ y ∈ xs, hasSl y = false) → clFold l xs = some l' → ∀ y ∈ l', hasSl y = false
  | [], l, l', hl, _, h => by
    have h : some l = some l' := h
    injection h with h
    subst h
    exact hl
  | x :: xs, l, l', hl, hx, h => by
    have h' : (match clStep l x with | none => none | some l' => clFold l' xs) = some l' := h
    cases hs : clStep l x with
    | none => rw [hs] at h'; cases h'
    | some l2 =>
      rw [hs] at h'
      exact clFold_no xs l2 l' (clStep_no hl (hx x (by simp)) hs) (fun y hy => hx y (List.mem_cons_of_mem _ hy)) h'
theorem spS_no (s : ByteArray) : ∀ y ∈ spS s, hasSl y = false := by
  intro y hy
  unfold spS at hy
  obtain ⟨a, ha, rfl⟩ := List.mem_map.1 hy
  unfold hasSl
  rw [data_mkB]
  exact decide_eq_false (spL_no _ a ha)
theorem rightL_nil : rightL [] = false := by decide
/-- what comes of the parts that are left -/
theorem clean_some {s : ByteArray} {l : List ByteArray} (h : cleanO s = some l) : (rightL (jnL (datL l)) = true → l ≠ [] ∧ cleanS s = mkB (jnL (datL l)) ∧ cleanB s = true) ∧ (rightL (jnL (datL l)) = false → cleanS s = ⟨#[]⟩ ∧ cleanB s = false) := by
  have hno : l.any hasSl = false := by
    unfold cleanO at h
    split at h
    · cases h
    · rw [List.any_eq_false]
      intro y hy
      rw [clFold_no _ _ _ (by simp) (spS_no s) h y hy]
      simp
  have e1 : cleanS s = joinS l := by unfold cleanS; rw [h]
  have e2 : cleanB s = joinB l := by unfold cleanB; rw [h]
  rw [e1, e2]
  unfold joinS joinB
  rw [hno]
  refine ⟨fun hr => ⟨fun e => ?_, ?_, ?_⟩, fun hr => ⟨?_, ?_⟩⟩
  · subst e
    have : rightL (jnL (datL [])) = rightL [] := rfl
    rw [this, rightL_nil] at hr
    cases hr
  all_goals rw [hr]; rfl
end Sw
namespace Go.Proofs.YtcpmhjealiajpaaGreatDoor
open Go Go.RowKit
open Sw
end Go.Proofs.YtcpmhjealiajpaaGreatDoor
/- The walk of NameCleans. -/
set_option linter.unusedVariables false
set_option linter.unusedSimpArgs false
namespace Sw
open Go Go.RowKit
theorem rightL_parts {p : List UInt8} (h : rightL p = true) : ∀ x ∈ spL p, partL x = true := by
  unfold rightL at h
  rw [Bool.and_eq_true] at h
  exact fun x hx => List.all_eq_true.1 h.2 x hx
theorem partL_facts {x : List UInt8} (h : partL x = true) : (∀ b ∈ x, okB b = true) ∧ x ≠ [] ∧ x ≠ [46] ∧ x ≠ [46, 46] := by
  unfold partL at h
  simp only [Bool.and_eq_true, decide_eq_true_eq, List.all_eq_true] at h
  refine ⟨h.1.1.1.1, fun e => ?_, h.1.1.2, h.1.2⟩
  subst e
  have := h.1.1.1.2.1
  simp at this
theorem mkB_inj {a b : List UInt8} (h : mkB a = mkB b) : a = b := by
  have := congrArg (fun x : ByteArray => x.data.toList) h
  simpa [data_mkB] using this
theorem clFold_all : ∀ (xs l : List ByteArray), (∀ x ∈ xs, x ≠ ⟨#[]⟩ ∧ x ≠ mkB [46] ∧ x ≠ mkB [46, 46]) → clFold l xs = some (l ++ xs)
  | [], l, _ => by rw [List.append_nil]; rfl
  | x :: xs, l, h => by
    obtain ⟨h1, h2, h3⟩ := h x (by simp)
    have hs : clStep l x = some (l ++ [x]) := by
      unfold clStep
      rw [if_neg (fun e => e.elim h1 h2), if_neg h3]
    show (match clStep l x with | none => none | some l' => clFold l' xs) = _
    rw [hs]
    show clFold (l ++ [x]) xs = _
    rw [clFold_all xs _ (fun y hy => h y (List.mem_cons_of_mem _ hy)), List.append_assoc]
    rfl
theorem jn_spS (s : ByteArray) : jnL (datL (spS s)) = s.data.toList := by
  have : datL (spS s) = spL s.data.toList := spS_data s
  rw [this, jnL_spL]
theorem jnL_mem {b : UInt8} : ∀ (l : List (List UInt8)), b ∈ jnL l → b = 47 ∨ ∃ x ∈ l, b ∈ x
  | [], h => by simp [jnL] at h
  | [x], h => .inr ⟨x, by simp, h⟩
  | x :: y :: l, h => by
    rw [jnL_cons x _ (by simp), List.mem_append, List.mem_cons] at h
    rcases h with h | h | h
    · exact .inr ⟨x, by simp, h⟩
    · exact .inl h
    · rcases jnL_mem (y :: l) h with h | ⟨z, hz, hb⟩
      · exact .inl h
      · exact .inr ⟨z, List.mem_cons_of_mem _ hz, hb⟩
/-- what is right is its own -/
theorem clean_right {s : ByteArray} (h : rightL s.data.toList = true) : cleanS s = s ∧ cleanB s = true := by
  have hp := rightL_parts h
  have hb : bad0 s = false := by
    rw [bad0_eq, Bool.or_eq_false_iff]
    constructor
    · refine decide_eq_false fun e => ?_
      cases hd : s.data.toList with
      | nil => rw [hd] at e; cases e
      | cons a t =>
        rw [hd] at e hp
        injection e with e
        subst e
        rw [spL_slash] at hp
        exact (partL_facts (hp [] (by simp))).2.1 rfl
    · refine decide_eq_false fun e => ?_
      rw [← jnL_spL s.data.toList] at e
      rcases jnL_mem _ e with e | ⟨x, hx, he⟩
      · cases e
      · exact absurd ((partL_facts (hp x hx)).1 0 he) (by decide)
  have ho : cleanO s = some (spS s) := by
    unfold cleanO
    rw [hb, if_neg (by simp), clFold_all]
    · rfl
    · intro x hx
      unfold spS at hx
      obtain ⟨a, ha, rfl⟩ := List.mem_map.1 hx
      obtain ⟨_, f1, f2, f3⟩ := partL_facts (hp a ha)
      exact ⟨fun e => f1 (mkB_inj e), fun e => f2 (mkB_inj e), fun e => f3 (mkB_inj e)⟩
  have hc := clean_some ho
  rw [jn_spS] at hc
  obtain ⟨_, h1, h2⟩ := hc.1 h
  rw [mkB_data] at h1
  exact ⟨h1, h2⟩
theorem clean_out (s : ByteArray) : (cleanB s = true → rightL (cleanS s).data.toList = true) ∧ (cleanB s = false → cleanS s = ⟨#[]⟩) := by
  cases ho : cleanO s with
  | none =>
    have h1 : cleanS s = ⟨#[]⟩ := by unfold cleanS; rw [ho]
    have h2 : cleanB s = false := by unfold cleanB; rw [ho]
    rw [h1, h2]
    exact ⟨fun h => (by cases h), fun _ => rfl⟩
  | some l =>
    have hc := clean_some ho
    cases hr : rightL (jnL (datL l)) with
    | true =>
      obtain ⟨_, h1, h2⟩ := hc.1 hr
      rw [h1, h2, data_mkB]
      exact ⟨fun _ => hr, fun h => by cases h⟩
    | false =>
      obtain ⟨h1, h2⟩ := hc.2 hr
      rw [h1, h2]
      exact ⟨fun h => (by cases h), fun _ => rfl⟩
theorem clean_size (s : ByteArray) : (cleanS s).size ≤ s.size + 1 := by
  cases ho : cleanO s with
  | none =>
    have h1 : cleanS s = ⟨#[]⟩ := by unfold cleanS; rw [ho]
    rw [h1]
    exact Nat.zero_le _
  | some l =>
    have hw : wt l ≤ s.size + 1 := by
      have h := ho
      unfold cleanO at h
      split at h
      · cases h
      · have := clFold_wt _ _ _ h
        rw [spS_wt] at this
        have h0 : wt [] = 0 := rfl
        omega
    have hj := wt_jn l
    have hc := clean_some ho
    cases hr : rightL (jnL (datL l)) with
    | true => rw [(hc.1 hr).2.1, mkB_size]; omega
    | false => rw [(hc.2 hr).1]; exact Nat.zero_le _
def exP : ByteArray := ⟨#[97, 47, 46, 47, 98, 47, 46, 46, 47, 99, 47]⟩
theorem ex_clean : cleanS exP = mkB [97, 47, 99] ∧ cleanB exP = true := by
  constructor
  · kernel_rfl
  · kernel_rfl
end Sw
namespace Go.Proofs.YtcpmhjealiajpaaGreatDoor
open Go Go.ChangeShapes Go.WideShapes Go.ChangeAt Go.RowKit
open Go.ChangeMaps (open_string shut_string)
open Sw
end Go.Proofs.YtcpmhjealiajpaaGreatDoor
/- Plain laws of name.Parent, Base, Ups. -/
set_option linter.unusedVariables false
set_option linter.unusedSimpArgs false
namespace Sw
open Go Go.RowKit
open Go.Proofs.YtcpmhjealiajpaaGreatDoor (partsS)
theorem spL_last : ∀ (a r : List UInt8), (47 : UInt8) ∉ r → spL (a ++ 47 :: r) = spL a ++ [r]
  | [], r, h => by rw [List.nil_append, spL_slash, spL_none r h]; rfl
  | b :: a, r, h => by
    have ih := spL_last a r h
    rw [List.cons_append, spL, ih, spL]
    split
    · rfl
    · cases hs : spL a with
      | nil => exact absurd hs (spL_ne a)
      | cons x t => rfl
def parentS (s : ByteArray) : ByteArray := mkB (jnL (datL (partsS s).dropLast))
def baseS (s : ByteArray) : ByteArray := (partsS s).getLastD ⟨#[]⟩
/-- the ups of a path, the shortest first -/
def upsS (s : ByteArray) : List ByteArray := (List.range ((partsS s).length - 1)).map fun k => mkB (jnL (datL ((partsS s).take (k + 1))))
theorem partsS_right {s : ByteArray} (h : rightL s.data.toList = true) : partsS s = spS s := by
  unfold partsS
  rw [if_pos h]
theorem partsS_not {s : ByteArray} (h : rightL s.data.toList = false) : partsS s = [] := by
  unfold partsS
  rw [if_neg (by rw [h]; simp)]
theorem parent_not {s : ByteArray} (h : rightL s.data.toList = false) : parentS s = ⟨#[]⟩ ∧ baseS s = ⟨#[]⟩ := by
  unfold parentS baseS
  rw [partsS_not h]
  exact ⟨rfl, rfl⟩
/-- the last slash of a text -/
theorem last_hit {s : ByteArray} {i : Nat} (hi : i < s.size) (h1 : ((s.data[i]!).toNat : Int) = 47) (h2 : ∀ j, i < j → j < s.size → ((s.data[j]!).toNat : Int) ≠ 47) : spS s = spS (s.extract 0 i) ++ [s.extract (i + 1) s.size] := by
  have hl : s.data.toList.length = s.size := by simp
  have hget : ∀ j (h : j < s.size), s.data[j]! = s.data.toList[j]'(by omega) := fun j h => by
    rw [getElem!_pos s.data j h]
    simp
  have hno : (47 : UInt8) ∉ s.data.toList.drop (i + 1) := by
    intro hm
    obtain ⟨k, hk, hke⟩ := List.getElem_of_mem hm
    rw [List.length_drop] at hk
    rw [List.getElem_drop] at hke
    refine h2 (i + 1 + k) (by omega) (by omega) ?_
    rw [hget _ (by omega), hke]
    rfl
  have he : s.data.toList[i]'(by omega) = 47 := by
    rw [hget i hi] at h1
    have h47 : (s.data.toList[i]'(by omega)).toNat = 47 := by omega
    exact UInt8.toNat_inj.1 (h47.trans rfl)
  unfold spS
  have hd : s.data.toList = s.data.toList.take i ++ 47 :: s.data.toList.drop (i + 1) := by
    conv => lhs; rw [← List.take_append_drop i s.data.toList]
    rw [List.drop_eq_getElem_cons (by omega), he]
  conv => lhs; rw [hd]
  rw [spL_last _ _ hno, List.map_append, List.map_singleton, ext_take]
  congr 1
  rw [← ext_drop, mkB_data]
theorem last_miss {s : ByteArray} (h : ∀ j, j < s.size → ((s.data[j]!).toNat : Int) ≠ 47) : spS s = [s] := by
  have hl : s.data.toList.length = s.size := by simp
  have hno : (47 : UInt8) ∉ s.data.toList := by
    intro hm
    obtain ⟨k, hk, hke⟩ := List.getElem_of_mem hm
    refine h k (by omega) ?_
    rw [getElem!_pos s.data k (by show k < s.size; omega)]
    have : s.data[k]'(by show k < s.size; omega) = s.data.toList[k]'hk := by simp
    rw [this, hke]
    rfl
  unfold spS
  rw [spL_none _ hno, List.map_singleton, mkB_data]
theorem rightL_len {p : List UInt8} (h : rightL p = true) : p.length ≤ 200 ∧ (spL p).length ≤ 12 ∧ (spL p).headD [] ≠ resL := by
  unfold rightL at h
  simp only [Bool.and_eq_true, decide_eq_true_eq] at h
  exact ⟨h.1.1.1, h.1.1.2, h.1.2⟩
/-- the first parts of a path are a path -/
theorem right_take {s : ByteArray} (h : rightL s.data.toList = true) (k : Nat) (hk : 1 ≤ k) : rightL (jnL (datL ((spS s).take k))) = true ∧ spS (mkB (jnL (datL ((spS s).take k)))) = (spS s).take k := by
  have hp := rightL_parts h
  obtain ⟨h1, h2, h3⟩ := rightL_len h
  have hd : datL ((spS s).take k) = (spL s.data.toList).take k := by
    unfold datL
    rw [List.map_take]
    congr 1
    exact spS_data s
  have hne : (spL s.data.toList).take k ≠ [] := by
    intro e
    have := congrArg List.length e
    rw [List.length_take, List.length_nil] at this
    have hpos := List.length_pos_iff.2 (spL_ne s.data.toList)
    omega
  have hsp : spL (jnL ((spL s.data.toList).take k)) = (spL s.data.toList).take k := spL_jnL _ hne (fun x hx => spL_no _ x (List.mem_of_mem_take hx))
  rw [hd]
  constructor
  · unfold rightL
    rw [hsp]
    have hl : (jnL ((spL s.data.toList).take k)).length ≤ 200 := by
      have := jnL_take_le (spL s.data.toList) k
      rw [jnL_spL] at this
      omega
    have hh : ((spL s.data.toList).take k).headD [] = (spL s.data.toList).headD [] := by
      obtain ⟨k', rfl⟩ : ∃ k', k = k' + 1 := ⟨k - 1, by omega⟩
      cases spL s.data.toList <;> rfl
    rw [decide_eq_true hl, decide_eq_true (show ((spL s.data.toList).take k).length ≤ 12 by rw [List.length_take]; omega), hh, decide_eq_true h3]
    simp only [Bool.true_and, List.all_eq_true]
    exact fun x hx => hp x (List.mem_of_mem_take hx)
  · unfold spS
    rw [data_mkB, hsp, ← List.map_take]
/-- where a walk up a path stands -/
def pAt (U : List ByteArray) (k : Nat) : ByteArray := if h : 0 < k ∧ k ≤ U.length then U[k - 1]'(by omega) else ⟨#[]⟩
theorem upsS_len (s : ByteArray) : (upsS s).length = (partsS s).length - 1 := by
  unfold upsS
  rw [List.length_map, List.length_range]
theorem upsS_at (s : ByteArray) (k : Nat) (h : k < (upsS s).length) : (upsS s)[k] = mkB (jnL (datL ((partsS s).take (k + 1)))) := by
  have hl := upsS_len s
  have h2 : (upsS s)[k]? = some (mkB (jnL (datL ((partsS s).take (k + 1))))) := by
    unfold upsS
    rw [List.getElem?_map, List.getElem?_range (by omega)]
    rfl
  exact (List.getElem?_eq_some_iff.1 h2).2
theorem ups_pAt (s : ByteArray) (k : Nat) (h : k ≤ (upsS s).length) : pAt (upsS s) k = mkB (jnL (datL ((partsS s).take k))) := by
  unfold pAt
  by_cases h0 : 0 < k
  · rw [dif_pos ⟨h0, h⟩, upsS_at, show k - 1 + 1 = k by omega]
  · rw [dif_neg (by omega), show k = 0 by omega]
    rfl
theorem ups_start (s : ByteArray) : parentS s = pAt (upsS s) (upsS s).length := by
  rw [ups_pAt s _ (Nat.le_refl _), upsS_len]
  unfold parentS
  rw [List.dropLast_eq_take]
theorem ups_step (s : ByteArray) (k : Nat) (h : k < (upsS s).length) : parentS (upsS s)[k] = pAt (upsS s) k ∧ (upsS s)[k].size ≤ 200 ∧ rightL (upsS s)[k].data.toList = true := by
  have hlen := upsS_len s
  have hr : rightL s.data.toList = true := by
    cases hr : rightL s.data.toList with
    | true => rfl
    | false => rw [partsS_not hr, List.length_nil] at hlen; omega
  have hps := partsS_right hr
  obtain ⟨h1, h2⟩ := right_take hr (k + 1) (by omega)
  rw [ups_pAt s k (by omega), upsS_at, hps]
  rw [hps] at hlen
  have hq : partsS (mkB (jnL (datL ((spS s).take (k + 1))))) = (spS s).take (k + 1) := by
    rw [partsS_right (by rw [data_mkB]; exact h1), h2]
  refine ⟨?_, ?_, by rw [data_mkB]; exact h1⟩
  · unfold parentS
    rw [hq, List.dropLast_eq_take, List.take_take, List.length_take]
    congr 4
    omega
  · rw [mkB_size]
    exact (rightL_len h1).1
theorem pAt_succ (U : List ByteArray) (k : Nat) (h : k < U.length) : pAt U (k + 1) = U[k] := by
  unfold pAt
  rw [dif_pos ⟨by omega, by omega⟩]
  rfl
theorem right_pos {s : ByteArray} (h : rightL s.data.toList = true) : 0 < s.size := by
  by_cases h0 : s.size = 0
  · have : s.data.toList = [] := List.length_eq_zero_iff.1 (by simpa using h0)
    rw [this, rightL_nil] at h
    cases h
  · omega
end Sw
/- Plain laws of how two paths stand. -/
set_option linter.unusedVariables false
set_option linter.unusedSimpArgs false
namespace Sw
open Go Go.RowKit
open Go.Proofs.YtcpmhjealiajpaaGreatDoor (partsS)
open Go.Lib (compareBytes)
theorem u8_tri (a b : UInt8) (h1 : ¬ a < b) (h2 : ¬ b < a) : a = b := UInt8.le_antisymm (UInt8.not_lt.1 h2) (UInt8.not_lt.1 h1)
theorem cb_refl : ∀ a : List UInt8, compareBytes a a = 0
  | [] => rfl
  | x :: a => by rw [compareBytes, if_neg (UInt8.lt_irrefl x), if_neg (UInt8.lt_irrefl x), cb_refl a]
theorem cb_neg : ∀ a b : List UInt8, compareBytes b a = -compareBytes a b
  | [], [] => rfl
  | [], _ :: _ => rfl
  | _ :: _, [] => rfl
  | x :: a, y :: b => by
    rw [compareBytes, compareBytes]
    by_cases h1 : x < y
    · rw [if_pos h1, if_neg (UInt8.lt_asymm h1), if_pos h1]
      rfl
    · by_cases h2 : y < x
      · rw [if_pos h2, if_neg h1, if_pos h2]
      · rw [if_neg h2, if_neg h1, if_neg h1, if_neg h2, cb_neg a b]
theorem cb_three : ∀ a b : List UInt8, compareBytes a b = -1 ∨ compareBytes a b = 0 ∨ compareBytes a b = 1
  | [], [] => .inr (.inl rfl)
  | [], _ :: _ => .inl rfl
  | _ :: _, [] => .inr (.inr rfl)
  | x :: a, y :: b => by
    rw [compareBytes]
    split
    · exact .inl rfl
    · split
      · exact .inr (.inr rfl)
      · exact cb_three a b
theorem cb_zero : ∀ a b : List UInt8, compareBytes a b = 0 → a = b
  | [], [], _ => rfl
  | [], _ :: _, h => by simp [compareBytes] at h
  | _ :: _, [], h => by simp [compareBytes] at h
  | x :: a, y :: b, h => by
    rw [compareBytes] at h
    split at h
    · cases h
    · rename_i h1
      split at h
      · cases h
      · rename_i h2
        rw [u8_tri x y h1 h2, cb_zero a b h]
theorem cb_zero_iff (a b : List UInt8) : compareBytes a b = 0 ↔ a = b := ⟨cb_zero a b, fun h => by subst h; exact cb_refl a⟩
theorem less_cb : ∀ a b : List UInt8, Op.bytesLess a b = decide (compareBytes a b = -1)
  | [], [] => rfl
  | [], _ :: _ => rfl
  | _ :: _, [] => rfl
  | x :: a, y :: b => by
    rw [Op.bytesLess, compareBytes, less_cb a b]
    by_cases h1 : x < y
    · rw [if_pos h1, decide_eq_true h1]; rfl
    · by_cases h2 : y < x
      · have hne : (x == y) = false := by
          rw [beq_eq_false_iff_ne]
          intro e
          subst e
          exact UInt8.lt_irrefl _ h2
        rw [if_neg h1, if_pos h2, decide_eq_false h1, hne]
        rfl
      · have := u8_tri x y h1 h2
        subst this
        rw [if_neg h1, if_neg h1, decide_eq_false h1, beq_self_eq_true]
        simp
/-- how two rows of texts stand -/
def cL : List ByteArray → List ByteArray → Int
  | [], [] => 0
  | [], _ :: _ => -1
  | _ :: _, [] => 1
  | x :: a, y :: b => if compareBytes x.data.toList y.data.toList = 0 then cL a b else compareBytes x.data.toList y.data.toList
theorem cL_refl : ∀ a : List ByteArray, cL a a = 0
  | [] => rfl
  | x :: a => by rw [cL, if_pos (cb_refl _), cL_refl a]
theorem cL_neg : ∀ a b : List ByteArray, cL b a = -cL a b
  | [], [] => rfl
  | [], _ :: _ => rfl
  | _ :: _, [] => rfl
  | x :: a, y :: b => by
    rw [cL, cL, cb_neg x.data.toList y.data.toList, cL_neg a b]
    by_cases h : compareBytes x.data.toList y.data.toList = 0
    · rw [if_pos (by omega), if_pos h]
    · rw [if_neg (by omega), if_neg h]
theorem cL_three : ∀ a b : List ByteArray, cL a b = -1 ∨ cL a b = 0 ∨ cL a b = 1
  | [], [] => .inr (.inl rfl)
  | [], _ :: _ => .inl rfl
  | _ :: _, [] => .inr (.inr rfl)
  | x :: a, y :: b => by
    rw [cL]
    split
    · exact cL_three a b
    · exact cb_three _ _
theorem dat_inj {x y : ByteArray} (h : x.data.toList = y.data.toList) : x = y := by
  cases x; cases y
  congr 1
  exact Array.toList_inj.1 h
theorem cL_zero : ∀ a b : List ByteArray, cL a b = 0 → a = b
  | [], [], _ => rfl
  | [], _ :: _, h => by simp [cL] at h
  | _ :: _, [], h => by simp [cL] at h
  | x :: a, y :: b, h => by
    rw [cL] at h
    split at h
    · rename_i h1
      rw [dat_inj (cb_zero _ _ h1), cL_zero a b h]
    · rename_i h1
      exact absurd h h1
theorem cL_take : ∀ (l : List ByteArray) (k : Nat), k < l.length → cL (l.take k) l = -1
  | [], k, h => absurd h (by simp)
  | x :: l, 0, _ => rfl
  | x :: l, k + 1, h => by
    rw [List.take_succ_cons, cL, if_pos (cb_refl _)]
    exact cL_take l k (by simpa using h)
/-- what stands between a row and something that begins with it begins with it, too -/
theorem cL_between : ∀ (x y r : List ByteArray), cL x y = -1 → cL y (x ++ r) = -1 → ∃ k, k < y.length ∧ y.take k = x
  | [], [], r, h, _ => by simp [cL] at h
  | [], b :: y, r, _, _ => ⟨0, by simp, rfl⟩
  | a :: x, [], r, h, _ => by simp [cL] at h
  | a :: x, b :: y, r, h1, h2 => by
    rw [List.cons_append, cL] at h2
    rw [cL] at h1
    rw [cb_neg a.data.toList b.data.toList] at h2
    by_cases h : compareBytes a.data.toList b.data.toList = 0
    · rw [if_pos h] at h1
      rw [if_pos (by omega)] at h2
      obtain ⟨k, hk, ht⟩ := cL_between x y r h1 h2
      refine ⟨k + 1, by simpa using hk, ?_⟩
      rw [List.take_succ_cons, ht, dat_inj (cb_zero _ _ h)]
    · rw [if_neg h] at h1
      rw [if_neg (by omega)] at h2
      omega
/-- from an index on -/
theorem cL_same : ∀ (k : Nat) (a b : List ByteArray), a.take k = b.take k → cL a b = cL (a.drop k) (b.drop k)
  | 0, _, _, _ => rfl
  | k + 1, [], b, h => by
    rw [List.take_nil] at h
    cases b with
    | nil => rfl
    | cons y b => cases h
  | k + 1, x :: a, [], h => by cases h
  | k + 1, x :: a, y :: b, h => by
    rw [List.take_succ_cons, List.take_succ_cons] at h
    injection h with h1 h2
    subst h1
    rw [cL, if_pos (cb_refl _), List.drop_succ_cons, List.drop_succ_cons]
    exact cL_same k a b h2
theorem cL_at (k : Nat) (a b : List ByteArray) (ht : a.take k = b.take k) (ha : k < a.length) (hb : k < b.length) : cL a b = if compareBytes a[k].data.toList b[k].data.toList = 0 then cL (a.drop (k + 1)) (b.drop (k + 1)) else compareBytes a[k].data.toList b[k].data.toList := by
  rw [cL_same k a b ht, List.drop_eq_getElem_cons ha, List.drop_eq_getElem_cons hb, cL]
theorem cL_out (k : Nat) (a b : List ByteArray) (ht : a.take k = b.take k) (ha : a.length = k) : cL a b = if a.length < b.length then -1 else 0 := by
  rw [cL_same k a b ht, List.drop_eq_nil_of_le (by omega)]
  cases hd : b.drop k with
  | nil =>
    have : b.length - k = 0 := by rw [← List.length_drop, hd]; rfl
    rw [if_neg (by omega)]
    rfl
  | cons y t =>
    have : b.length - k = t.length + 1 := by rw [← List.length_drop, hd]; rfl
    rw [if_pos (by omega)]
    rfl
theorem cL_out2 (k : Nat) (a b : List ByteArray) (ht : a.take k = b.take k) (hb : b.length = k) (ha : k < a.length) : cL a b = 1 := by
  have hd : b.drop k = [] := List.drop_eq_nil_of_le (by omega)
  rw [cL_same k a b ht, hd, List.drop_eq_getElem_cons ha]
  rfl
/-- how two paths stand -/
def ordS (p q : ByteArray) : Int := if (partsS p).length = 0 ∧ (partsS q).length = 0 then compareBytes p.data.toList q.data.toList else cL (partsS p) (partsS q)
theorem ordS_neg (p q : ByteArray) : ordS q p = -ordS p q := by
  unfold ordS
  by_cases h : (partsS p).length = 0 ∧ (partsS q).length = 0
  · rw [if_pos h, if_pos ⟨h.2, h.1⟩, cb_neg]
  · rw [if_neg h, if_neg (fun e => h ⟨e.2, e.1⟩), cL_neg]
theorem ordS_three (p q : ByteArray) : ordS p q = -1 ∨ ordS p q = 0 ∨ ordS p q = 1 := by
  unfold ordS
  split
  · exact cb_three _ _
  · exact cL_three _ _
theorem parts_inj {p q : ByteArray} (h : partsS p = partsS q) (h0 : (partsS p).length ≠ 0) : p = q := by
  have hr : ∀ s : ByteArray, (partsS s).length ≠ 0 → rightL s.data.toList = true := fun s hs => by
    cases hr : rightL s.data.toList with
    | true => rfl
    | false => rw [partsS_not hr] at hs; exact absurd rfl hs
  have hp := partsS_right (hr p h0)
  have hq := partsS_right (hr q (by rw [← h]; exact h0))
  rw [hp, hq] at h
  apply dat_inj
  rw [← jn_spS p, ← jn_spS q, h]
theorem ordS_zero {p q : ByteArray} (h : ordS p q = 0) : p = q := by
  unfold ordS at h
  split at h
  · exact dat_inj (cb_zero _ _ h)
  · rename_i h1
    have h2 := cL_zero _ _ h
    exact parts_inj h2 (fun e => h1 ⟨e, by rw [← h2]; exact e⟩)
theorem ordS_refl (p : ByteArray) : ordS p p = 0 := by
  unfold ordS
  split
  · exact cb_refl _
  · exact cL_refl _
/-- the parts of an up -/
theorem ups_mem {s u : ByteArray} (h : u ∈ upsS s) : ∃ k, 1 ≤ k ∧ k < (partsS s).length ∧ partsS u = (partsS s).take k ∧ rightL u.data.toList = true := by
  obtain ⟨k, hk, rfl⟩ := List.getElem_of_mem h
  have hlen := upsS_len s
  have hst := ups_step s k hk
  have hr : rightL s.data.toList = true := by
    cases hr : rightL s.data.toList with
    | true => rfl
    | false => rw [partsS_not hr, List.length_nil] at hlen; omega
  refine ⟨k + 1, by omega, by omega, ?_, hst.2.2⟩
  rw [partsS_right hst.2.2, upsS_at, partsS_right hr]
  exact (right_take hr (k + 1) (by omega)).2
theorem ups_of {s u : ByteArray} {k : Nat} (h1 : 1 ≤ k) (h2 : k < (partsS s).length) (h3 : partsS u = (partsS s).take k) : u ∈ upsS s := by
  have hlen := upsS_len s
  have hk : k - 1 < (upsS s).length := by omega
  have hu := upsS_at s (k - 1) hk
  have hm : (upsS s)[k - 1] ∈ upsS s := List.getElem_mem hk
  obtain ⟨_, _, _, _, h5⟩ := ups_mem hm
  have hr : rightL s.data.toList = true := by
    cases hr : rightL s.data.toList with
    | true => rfl
    | false => rw [partsS_not hr, List.length_nil] at hlen; omega
  have hp : partsS (upsS s)[k - 1] = (partsS s).take k := by
    rw [partsS_right h5, hu, partsS_right hr, show k - 1 + 1 = k by omega]
    exact (right_take hr k h1).2
  have : (upsS s)[k - 1] = u := parts_inj (by rw [hp, h3]) (by rw [hp, List.length_take]; omega)
  rw [← this]
  exact hm
theorem ups_order {p u : ByteArray} (h : u ∈ upsS p) : ordS u p = -1 := by
  obtain ⟨k, h1, h2, h3, _⟩ := ups_mem h
  unfold ordS
  rw [if_neg (by omega), h3]
  exact cL_take _ _ h2
theorem between {p q s : ByteArray} (h : p ∈ upsS q) (hr : rightL s.data.toList = true) (h1 : ordS p s = -1) (h2 : ordS s q = -1) : p ∈ upsS s := by
  obtain ⟨k, hk1, hk2, h3, _⟩ := ups_mem h
  have hs0 : 0 < (partsS s).length := by
    rw [partsS_right hr]
    exact List.length_pos_iff.2 (spS_ne s)
  have hp0 : (partsS p).length = k := by rw [h3, List.length_take]; omega
  unfold ordS at h1 h2
  rw [if_neg (by omega)] at h1 h2
  obtain ⟨j, hj, hje⟩ := cL_between (partsS p) (partsS s) ((partsS q).drop k) h1 (by rw [h3, List.take_append_drop]; exact h2)
  have hjk : j = k := by
    rw [← hp0, ← hje, List.length_take]; omega
  subst hjk
  exact ups_of hk1 hj hje.symm
end Sw
/- Contracts of name.Parts, Parent, Base, Ups, and of the reference's Ups. -/
set_option linter.unusedVariables false
set_option linter.unusedSimpArgs false
namespace Go.Proofs.YtcpmhjealiajpaaGreatDoor
open Go Go.RowKit
open Sw
/-- texts that can be read -/
def SlPost (l : List ByteArray) (w : World) (e : Ending) (w' : World) : Prop := ∃ v, e = .returned v ∧ SlV w' 1 bE v l ∧ Below w.heap.size w w'
theorem strPost_sl {l : List ByteArray} {w : World} {e : Ending} {w' : World} (h : StrPost l w e w') : SlPost l w e w' := by
  obtain ⟨v, h1, h2, h3⟩ := h
  exact ⟨v, h1, SlV.of_own h2 bE_len (by omega), h3⟩
theorem flat_bE (l : List ByteArray) : l.flatMap bE = l.map Value.string := by
  induction l with
  | nil => rfl
  | cons a l ih => rw [List.flatMap_cons, ih]; rfl
set_option maxRecDepth 100000 in
set_option maxHeartbeats 1000000 in
theorem parts_any (w : World) (s : ByteArray) (hs : s.size ≤ 100000) :
    Calls Tryz.prog 77 #[.string s] w (SlPost (partsS s) w) := by
  have HR := Lib.hid (right_any w s (by omega))
  have HS := Lib.hid (fun W => split_one W s hs)
  have hlen := spS_len s
  have hp := partsS_right (s := s)
  have hn := partsS_not (s := s)
  have hF1 := fun (w1 w2 : World) (hb1 : Below w.heap.size w w1) (h : w2 = w1.alloc (.cells ((spS s).map Value.string).toArray 9)) => (show SlV w2 1 bE (.slice (some ⟨w1.heap.size, 0, none⟩) (spS s).length (spS s).length) (spS s) ∧ Below w.heap.size w w2 from by
    subst h
    have hB := Blk.new w1 9 ((spS s).map Value.string).toArray
    refine ⟨⟨_, _, rfl, Nat.le_refl _, by unfold maxLen; omega, fun _ => ⟨w1.heap.size, 0, rfl, hB.lt, fun i hi j hj => ?_⟩⟩, hb1.alloc hb1.size _⟩
    have hj0 : j = 0 := by omega
    subst hj0
    rw [hB.cell]
    simp [bE, List.getElem?_eq_getElem hi])
  generalize rightL s.data.toList = U at *
  cases U with
  | false =>
    have HF := Lib.hid (fun (w1 : World) (hb1 : Below w.heap.size w w1) => (show SlPost (partsS s) w (.returned (.slice none 0 0)) w1 from ⟨_, rfl, by rw [hn rfl]; exact ⟨none, 0, rfl, Nat.le_refl _, by unfold maxLen; omega, SlOf.nil _ _ _ _⟩, hb1⟩))
    clear hp hn hF1
    go_enter Tryz.func77, Tryz.ntmps77
    go_wp2_with fail
    refine HR.out.mono ?_
    rintro e w1 ⟨rfl, hb1⟩
    have HG := Lib.hid (HF.out w1 hb1)
    go_wp2_with fail
    go_ret
    exact HG.out
  | true =>
    have HF := Lib.hid (fun (w1 w2 : World) (hb1 : Below w.heap.size w w1) (h : w2 = w1.alloc (.cells ((spS s).map Value.string).toArray 9)) => (show SlPost (partsS s) w (.returned (.slice (some ⟨w1.heap.size, 0, none⟩) (spS s).length (spS s).length)) w2 from ⟨_, rfl, by rw [hp rfl]; exact (hF1 w1 w2 hb1 h).1, (hF1 w1 w2 hb1 h).2⟩))
    clear hp hn hF1
    go_enter Tryz.func77, Tryz.ntmps77
    go_wp2_with fail
    refine HR.out.mono ?_
    rintro e w1 ⟨rfl, hb1⟩
    go_wp2_with fail
    refine (HS.out w1).mono ?_
    rintro e w2 ⟨rfl, hw2⟩
    have HG := Lib.hid (HF.out w1 w2 hb1 hw2)
    clear hw2
    go_wp2_with fail
    go_ret
    exact HG.out
theorem last_47 (w : World) (s : ByteArray) (hs : s.size ≤ 1000000) :
    Calls Tryz.prog 119 #[.string s, .string ⟨#[47]⟩] w fun e w' => e = .returned (.int .i64 (Lib.lastIndexByte s 47)) ∧ w' = w :=
  Tryz.strings_LastIndex_one s ⟨#[47]⟩ rfl (by omega) w
set_option maxRecDepth 100000 in
set_option maxHeartbeats 1000000 in
theorem parent_any (w : World) (s : ByteArray) (hs : s.size ≤ 100000) :
    Calls Tryz.prog 97 #[.string s] w fun e w' => e = .returned (.string (parentS s)) ∧ Below w.heap.size w w' := by
  have HR := Lib.hid (right_any w s (by omega))
  have HL := Lib.hid (last_47 w s (by omega))
  rcases Lib.lastIndexByte_spec s 47 with ⟨hi, hno⟩ | ⟨i, hlt, hi, h1, h2⟩
  · have hp : parentS s = ⟨#[]⟩ := by
      cases hr : rightL s.data.toList with
      | false => exact (parent_not hr).1
      | true =>
        unfold parentS
        rw [partsS_right hr, last_miss hno]
        rfl
    rw [hi] at HL
    have HP := Lib.hid hp; clear hp hno hi
    go_enter Tryz.func97, Tryz.ntmps97
    go_wp2_with fail
    refine HL.out.mono ?_
    rintro e w1 ⟨rfl, rfl⟩
    go_wp2_with fail
    go_ret
    exact ⟨by rw [HP.out]; first | done | rfl, Below.refl _ _⟩
  · have hsp := last_hit hlt h1 h2
    rw [hi] at HL
    cases hr : rightL s.data.toList with
    | false =>
      rw [hr] at HR
      have HP := Lib.hid (parent_not hr).1
      clear hsp h1 h2 hi hr
      go_enter Tryz.func97, Tryz.ntmps97
      go_wp2_with fail
      refine HL.out.mono ?_
      rintro e w1 ⟨rfl, rfl⟩
      go_wp2_with fail
      refine HR.out.mono ?_
      rintro e w2 ⟨rfl, hb2⟩
      go_wp2_with fail
      go_ret
      exact ⟨by rw [HP.out]; first | done | rfl, hb2⟩
    | true =>
      rw [hr] at HR
      have HP := Lib.hid (show parentS s = s.extract 0 i by
        unfold parentS
        rw [partsS_right hr, hsp, List.dropLast_concat, jn_spS, mkB_data])
      have hiI : (i : Int) ≤ s.size := by omega
      clear hsp h1 h2 hi hr
      go_enter Tryz.func97, Tryz.ntmps97
      go_wp2_with fail
      refine HL.out.mono ?_
      rintro e w1 ⟨rfl, rfl⟩
      go_wp2_with fail
      refine HR.out.mono ?_
      rintro e w2 ⟨rfl, hb2⟩
      go_wp2_with fail
      go_ret
      exact ⟨by rw [HP.out]; first | done | rfl, hb2⟩
end Go.Proofs.YtcpmhjealiajpaaGreatDoor
/- Contracts of name.Ups and of the reference's Ups. -/
set_option linter.unusedVariables false
set_option linter.unusedSimpArgs false
namespace Sw
open Go Go.RowKit
def slLen : Value → Nat
  | .slice _ n _ => n
  | _ => 0
theorem own_slLen {w : World} {base : Nat} {e : TypeId} {size n : Nat} {v : Value} {xs : List Value} (h : w.ownsRow base e size v n xs) : slLen v = n := by
  rcases h.2 with ⟨rfl, h0⟩ | ⟨g, cap, cur, rfl, _⟩
  · exact h0.symm
  · rfl
end Sw
namespace Go.Proofs.YtcpmhjealiajpaaGreatDoor
open Go Go.RowKit
open Sw
set_option maxRecDepth 100000 in
theorem rev_nil (w : World) (A : Option Addr) (c : Nat) :
    Calls Tryz.prog 118 #[.slice A 0 c] w fun e w' => e = .returned (.tuple #[]) ∧ w = w' := by
  go_enter Tryz.func118, Tryz.ntmps118
  go_wp2_with fail
  go_loopw [2, 3] (fun i j wr => i = .int .i64 0 ∧ j = .int .i64 (-1) ∧ w = wr) (fun _ _ _ => 0)
  case atStart => exact ⟨rfl, rfl, rfl⟩
  case round =>
    obtain ⟨rfl, rfl, rfl⟩ := hrel
    go_wp2_with fail
    go_end0
    exact ⟨rfl, rfl⟩
/-- texts turned round -/
theorem rev_own (w : World) (base : Nat) (v : Value) (l : List ByteArray) (hown : w.ownsRow base 9 1 v l.length (l.flatMap bE)) (hl : l.length ≤ 100000) :
    Calls Tryz.prog 118 #[v] w fun e w' => e = .returned (.tuple #[]) ∧ SlV w' 1 bE v l.reverse ∧ Below base w w' := by
  by_cases h0 : l.length = 0
  · have hl0 : l = [] := List.length_eq_zero_iff.1 h0
    obtain ⟨A, c, rfl, hc, hm, hsl⟩ := SlV.of_own hown bE_len (by omega)
    subst hl0
    exact (rev_nil w A c).mono fun e w' h => ⟨h.1, ⟨A, c, rfl, Nat.zero_le _, hm, SlOf.nil _ _ _ _⟩, by rw [← h.2]; exact Below.refl _ _⟩
  · rcases hown.2 with ⟨_, h⟩ | ⟨g, cap, cur, rfl, hb, hh, hc, hm, hsz, hx⟩
    · omega
    · have hcell : ∀ i, i < l.length → w.cell? ⟨g, 0 + i, none⟩ = some (.string (l.getD i ByteArray.empty)) := fun i hi => by
        have := hown.cells (g := g) rfl i (.string l[i]) (by rw [flat_bE]; simp [List.getElem?_eq_getElem hi])
        rw [add_mk] at this
        rw [this, List.getD_eq_getElem?_getD, List.getElem?_eq_getElem hi]
        rfl
      have hfr : ∀ i, i < l.length → w.frozen? ⟨g, 0 + i, none⟩ = false := fun i hi => by
        have hB : Blk w g 9 cur := hh
        exact hB.frozen (0 + i)
      refine (Tryz.slices_Reverse_string_cells g 0 l.length cap (fun i => l.getD i ByteArray.empty) w (by omega) hcell hfr).mono ?_
      rintro e w' ⟨rfl, q, rfl⟩
      have hstr : (Lib.strsOf (fun i => l.getD i ByteArray.empty) l.length).reverse.map Go.Proofs.encStr = l.reverse.map Value.string := by
        have h1 : Lib.strsOf (fun i => l.getD i ByteArray.empty) l.length = l.map fun b => b.data.toList := by
          unfold Lib.strsOf
          apply List.ext_getElem
          · simp
          · intro i h1 h2
            have hi : i < l.length := by simpa using h2
            simp [List.getD_eq_getElem?_getD, List.getElem?_eq_getElem hi]
        rw [h1, ← List.map_reverse, List.map_map]
        exact List.map_congr_left fun a _ => congrArg Value.string (mkB_data a)
      rw [hstr]
      have hlt : g < w.heap.size := (Array.getElem?_eq_some_iff.1 hh).1
      refine ⟨rfl, ⟨some ⟨g, 0, none⟩, cap, by simp, by simpa using hc, hm, fun hn => ⟨g, 0, rfl, ?_, fun i hi j hj => ?_⟩⟩, ?_⟩
      · have := (Go.Lib.below_setCells_w (B := base) hb (l.reverse.map Value.string) 0 (w.drewN q)).size
        exact Nat.lt_of_lt_of_le hlt this
      · have hj0 : j = 0 := by omega
        subst hj0
        have hin := World.cell?_setCells_in g (l.reverse.map Value.string) 0 (w.drewN q) (fun j hj => by
          have hj' : j < l.length := by simpa using hj
          have := hcell j hj'
          show ((w.drewN q).cell? ⟨g, 0 + j, none⟩).isSome = true
          rw [show (w.drewN q).cell? ⟨g, 0 + j, none⟩ = w.cell? ⟨g, 0 + j, none⟩ from rfl, this]
          rfl) i (by simpa using hi)
        rw [Nat.mul_one, Nat.add_zero, hin]
        simp [bE]
      · have h1 := Go.Lib.below_setCells_w (B := base) hb (l.reverse.map Value.string) 0 (w.drewN q)
        exact below_of_drewN h1
set_option maxRecDepth 100000 in
set_option maxHeartbeats 4000000 in
theorem ups_any (w : World) (s : ByteArray) (hs : s.size ≤ 90000) :
    Calls Tryz.prog 96 #[.string s] w (SlPost (upsS s) w) := by
  have HP0 := Lib.hid (parent_any w s (by omega))
  rw [ups_start] at HP0
  have hstep := ups_step s
  have hlenU : (upsS s).length ≤ 90001 := by
    have h1 := upsS_len s
    have h2 : (partsS s).length ≤ s.size + 1 := by
      unfold partsS
      split
      · exact spS_len s
      · simp
    omega
  generalize upsS s = U at *
  have HST := Lib.hid hstep; clear hstep
  have HF := Lib.hid (fun v w' (h : SlV w' 1 bE v U) (hb : Below w.heap.size w w') => (show SlPost U w (.returned v) w' from ⟨v, rfl, h, hb⟩))
  have hp0 : pAt U 0 = ⟨#[]⟩ := by unfold pAt; rw [dif_neg (by omega)]
  have HP1 := Lib.hid hp0; clear hp0
  go_enter Tryz.func96, Tryz.ntmps96
  go_wp2_with fail
  refine HP0.out.mono ?_
  rintro e w1 ⟨rfl, hb1⟩
  go_wp2_with fail
  go_loopw [0, 2] (fun p o wr => ∃ k, k ≤ U.length ∧ p = .string (pAt U k) ∧ wr.ownsRow w.heap.size 9 1 o (U.length - k) ((U.drop k).reverse.flatMap bE) ∧ Below w.heap.size w wr) (fun _ o _ => U.length - slLen o)
  case atStart => exact ⟨U.length, Nat.le_refl _, rfl, by rw [Nat.sub_self, List.drop_length]; exact ⟨rfl, .inl ⟨rfl, rfl⟩⟩, hb1⟩
  case round =>
    obtain ⟨k, hk, rfl, hown, hbr⟩ := hrel
    cases k with
    | zero =>
      rw [HP1.out]
      rw [List.drop_zero, Nat.sub_zero] at hown
      have hrev := rev_own wr w.heap.size u2 U.reverse (by rw [List.length_reverse]; exact hown) (by rw [List.length_reverse]; omega)
      rw [List.reverse_reverse] at hrev
      have HREV := Lib.hid hrev; clear hrev hown
      have he : (⟨#[]⟩ : ByteArray).toList.isEmpty = true := by rw [str_empty]; exact decide_eq_true rfl
      go_wp2_with fail
      refine HREV.out.mono ?_
      rintro e w5 ⟨rfl, hsl, hb5⟩
      have HG := Lib.hid (HF.out _ w5 hsl (hbr.trans hb5))
      clear hsl
      go_wp2_with fail
      go_ret
      exact HG.out
    | succ k =>
      have hkl : k < U.length := by omega
      obtain ⟨h1, h2, h3⟩ := HST.out k hkl
      have hpos := right_pos h3
      have hPar := fun W => parent_any W U[k] (by omega)
      rw [h1] at hPar
      have hne : U[k].toList.isEmpty = false := by
        rw [str_empty]
        refine decide_eq_false fun e => ?_
        rw [e] at hpos
        exact absurd hpos (by decide)
      have hdr : (U.drop k).reverse.flatMap bE = (U.drop (k + 1)).reverse.flatMap bE ++ [.string U[k]] := by
        rw [List.drop_eq_getElem_cons hkl, List.reverse_cons, flat_snoc]
      have hlen : U.length - k = U.length - (k + 1) + 1 := by omega
      have hsl := own_slLen hown
      rw [pAt_succ U k hkl]
      have HPAR := Lib.hid hPar; clear hPar h1 h2 h3 hpos
      have HDR := Lib.hid (And.intro hdr hlen); clear hdr hlen
      generalize U[k] = X at *
      have hl6 : U.length - (k + 1) + 1 ≤ 1000000 := by omega
      have HO := Lib.hid hown; clear hown
      obtain ⟨m, hm⟩ : ∃ m, m = U.length - (k + 1) := ⟨_, rfl⟩
      rw [← hm] at HO HDR hl6 hsl
      have HM := Lib.hid hm; clear hm
      go_wp2_with (refine wpList_app rfl _ _ 78 rfl w.heap.size 9 (.string ByteArray.empty) 1 16 Tryz.underlying78 info_str rfl (by omega) u2 m ((U.drop (k + 1)).reverse.flatMap bE) (by simp [Act.eval, Act.put]) (own_kept HO.out ((Below.refl _ _).alloc (Nat.le_refl _) _)) wr.heap.size 1 _ _ (by simp [Act.eval, Act.put]) (Blk.new _ _ _) rfl (by simp [Value.oneCell']) hl6 (by omega) (by have := hbr.size; simp; omega) _ rfl ?_; intro g2 cap2 w5 ho2 hg2 hat2 hlt2)
      have hw5 : Below w.heap.size w w5 := own_below HO.out (hbr.alloc hbr.size _) hg2 (Nat.le_refl _) (by have := hbr.size; simp; omega)
      refine (HPAR.out _).mono ?_
      rintro e w6 ⟨rfl, hb6⟩
      have ho6 := own_kept ho2 hb6
      go_wp2_with fail
      go_roundw
      case rel => exact ⟨k, by omega, rfl, by rw [HDR.out.1, HDR.out.2]; exact ho6, hw5.trans (hb6.mono hw5.size)⟩
      case measure => have := HM.out; rw [hsl]; simp [slLen]; omega
end Go.Proofs.YtcpmhjealiajpaaGreatDoor
/- The contract of the reference's Ups. -/
set_option linter.unusedVariables false
set_option linter.unusedSimpArgs false
namespace Go.Proofs.YtcpmhjealiajpaaGreatDoor
open Go Go.RowKit
open Sw
theorem partsS_wt (s : ByteArray) : wt (partsS s) ≤ s.size + 1 := by
  unfold partsS
  split
  · rw [spS_wt]; omega
  · exact Nat.zero_le _
theorem wt_take (l : List ByteArray) : ∀ k, wt (l.take k) ≤ wt l := by
  induction l with
  | nil => intro k; simp
  | cons x l ih =>
    intro k
    cases k with
    | zero => simp [wt]
    | succ k => rw [List.take_succ_cons, wt_cons, wt_cons]; have := ih k; omega
set_option maxRecDepth 100000 in
set_option maxHeartbeats 4000000 in
theorem refUps_any (w : World) (s : ByteArray) (hs : s.size ≤ 90000) :
    Calls Tryz.prog 56 #[.string s] w (SlPost (upsS s) w) := by
  have HP := Lib.hid (refParts_any w s (by omega))
  have hwt := partsS_wt s
  have hwl := wt_len (partsS s)
  have hUl := upsS_len s
  have hUa := upsS_at s
  generalize upsS s = U at *
  generalize partsS s = L at *
  have HUA := Lib.hid hUa; clear hUa
  have HF := Lib.hid (fun v w' (h : SlV w' 1 bE v U) (hb : Below w.heap.size w w') => (show SlPost U w (.returned v) w' from ⟨v, rfl, h, hb⟩))
  go_enter Tryz.func56, Tryz.ntmps56
  go_wp2_with fail
  refine HP.out.mono ?_
  rintro e w1 ⟨v, rfl, hown, hb1⟩
  obtain ⟨A, c, rfl, hc, hm, hsl⟩ := SlV.of_own hown bE_len (by omega)
  unfold maxLen at hm
  obtain ⟨N, hN⟩ : ∃ N, L.length = N := ⟨_, rfl⟩
  have HN := Lib.hid hN
  rw [hN] at hc hwl hUl ⊢
  clear hN hown
  have HSL := Lib.hid hsl; clear hsl
  have HUL := Lib.hid hUl; clear hUl
  go_wp2_with fail
  go_loopw [3, 5] (fun o iv wr => ∃ n : Nat, 1 ≤ n ∧ n ≤ max 1 N ∧ iv = .int .i64 n ∧ wr.ownsRow w1.heap.size 9 1 o (n - 1) ((U.take (n - 1)).flatMap bE) ∧ Below w1.heap.size w1 wr) (fun _ iv _ => N - (intOf iv).toNat)
  case atStart => exact ⟨1, Nat.le_refl _, by omega, rfl, ⟨rfl, .inl ⟨rfl, rfl⟩⟩, Below.refl _ _⟩
  case round =>
    obtain ⟨n, hn1, hnN, rfl, hown, hbr⟩ := hrel
    by_cases hlt : n < N
    · obtain ⟨k, rfl⟩ : ∃ k, n = k + 1 := ⟨n - 1, by omega⟩
      have hkU : k < U.length := by have := HUL.out; omega
      have hj := refJoin_any wr A (k + 1) c (L.take (k + 1)) (by rw [List.length_take]; have := HN.out; omega) (by unfold maxLen; omega) ((HSL.out.below hbr (Nat.le_refl _)).take (k + 1)) (by have h1 := wt_jn (L.take (k + 1)); have h2 := wt_take L (k + 1); omega)
      rw [← HUA.out k hkU] at hj
      have hdr : (U.take (k + 1)).flatMap bE = (U.take k).flatMap bE ++ [.string U[k]] := by
        rw [List.take_succ_eq_append_getElem hkU, flat_snoc]
      have HDR := Lib.hid hdr; clear hdr
      have HJ := Lib.hid hj; clear hj
      rw [Nat.add_sub_cancel] at hown
      generalize U[k] = X at *
      have hl6 : k + 1 ≤ 1000000 := by omega
      have hkI : (k : Int) + 1 < N := by omega
      have hkc : (k : Int) + 1 ≤ c := by omega
      have HO := Lib.hid hown; clear hown
      go_wp2_with fail
      refine HJ.out.mono ?_
      rintro e w2 ⟨rfl, rfl⟩
      go_wp2_with (refine wpList_app rfl _ _ 78 rfl w1.heap.size 9 (.string ByteArray.empty) 1 16 Tryz.underlying78 info_str rfl (by omega) u3 k ((U.take k).flatMap bE) (by simp [Act.eval, Act.put]) (own_kept HO.out ((Below.refl _ _).alloc (Nat.le_refl _) _)) wr.heap.size 1 _ _ (by simp [Act.eval, Act.put]) (Blk.new _ _ _) rfl (by simp [Value.oneCell']) hl6 (by omega) (by have := hbr.size; simp; omega) _ rfl ?_; intro g2 cap2 w5 ho2 hg2 hat2 hlt2)
      have hw5 : Below w1.heap.size w1 w5 := own_below HO.out (hbr.alloc hbr.size _) hg2 (Nat.le_refl _) (by have := hbr.size; simp; omega)
      go_roundw
      case rel => exact ⟨k + 1 + 1, by omega, by omega, by go_num, by rw [Nat.add_sub_cancel, HDR.out]; exact ho2, hw5⟩
      case measure => simp [intOf]; omega
    · have hU : U.take (n - 1) = U := List.take_of_length_le (by have := HUL.out; omega)
      rw [hU] at hown
      have hsl := SlV.of_own hown bE_len (by omega)
      have HG := Lib.hid (HF.out _ wr hsl (hb1.trans (hbr.mono hb1.size)))
      have hltI : ¬ (n : Int) < N := by omega
      clear hsl hown hU
      go_wp2_with fail
      go_ret
      exact HG.out
end Go.Proofs.YtcpmhjealiajpaaGreatDoor
