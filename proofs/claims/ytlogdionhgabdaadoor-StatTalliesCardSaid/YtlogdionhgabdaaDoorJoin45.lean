/- Several texts, joined for the limit of sixty files; each one opens with its own comment. -/
import Derived.Test.YtlogdionhgabdaaDoorJoin44
import Derived.Maps.AppendAt
/- Plain laws of name.Clean. -/
set_option linter.unusedVariables false
set_option linter.unusedSimpArgs false
namespace Sw
open Go Go.RowKit
/-- a part more, in a path that is made clean -/
def clStep (l : List ByteArray) (x : ByteArray) : Option (List ByteArray) := if x = ⟨#[]⟩ ∨ x = mkB [46] then some l else if x = mkB [46, 46] then (if l = [] then none else some l.dropLast) else some (l ++ [x])
def clFold : List ByteArray → List ByteArray → Option (List ByteArray)
  | l, [] => some l
  | l, x :: xs => match clStep l x with
    | none => none
    | some l' => clFold l' xs
theorem clFold_snoc (x : ByteArray) : ∀ (xs l : List ByteArray), clFold l (xs ++ [x]) = (clFold l xs).bind fun l' => clStep l' x
  | [], l => by
    show (match clStep l x with | none => none | some l' => clFold l' []) = clStep l x
    cases clStep l x <;> rfl
  | y :: xs, l => by
    show (match clStep l y with | none => none | some l' => clFold l' (xs ++ [x])) = (match clStep l y with | none => none | some l' => clFold l' xs).bind fun l' => clStep l' x
    cases clStep l y with
    | none => rfl
    | some l' => exact clFold_snoc x xs l'
theorem clFold_none (l : List ByteArray) (xs : List ByteArray) : ∀ (pre : List ByteArray) , clFold l pre = none → clFold l (pre ++ xs) = none := by
  intro pre
  induction pre generalizing l with
  | nil => intro h; cases h
  | cons y pre ih =>
    intro h
    show (match clStep l y with | none => none | some l' => clFold l' (pre ++ xs)) = none
    have h' : (match clStep l y with | none => none | some l' => clFold l' pre) = none := h
    cases hs : clStep l y with
    | none => rfl
    | some l' =>
      rw [hs] at h'
      exact ih l' h'
def wt (l : List ByteArray) : Nat := (l.map fun x => x.size + 1).sum
theorem wt_cons (x : ByteArray) (l : List ByteArray) : wt (x :: l) = x.size + 1 + wt l := by simp [wt]
theorem wt_snoc (l : List ByteArray) (x : ByteArray) : wt (l ++ [x]) = wt l + (x.size + 1) := by simp [wt]
theorem wt_drop (l : List ByteArray) : wt l.dropLast ≤ wt l := by
  by_cases h : l = []
  · subst h; simp
  · have := wt_snoc l.dropLast (l.getLast h)
    rw [List.dropLast_concat_getLast] at this
    omega
theorem clStep_wt {l l' : List ByteArray} {x : ByteArray} (h : clStep l x = some l') : wt l' ≤ wt l + (x.size + 1) := by
  unfold clStep at h
  split at h
  · injection h with h; subst h; omega
  · split at h
    · split at h
      · cases h
      · injection h with h; subst h; have := wt_drop l; omega
    · injection h with h; subst h; rw [wt_snoc]; omega
theorem clFold_wt : ∀ (xs l l' : List ByteArray), clFold l xs = some l' → wt l' ≤ wt l + wt xs
  | [], l, l', h => by
    have h : some l = some l' := h
    injection h with h
    subst h
    omega
  | x :: xs, l, l', h => by
    have h' : (match clStep l x with | none => none | some l' => clFold l' xs) = some l' := h
    cases hs : clStep l x with
    | none => rw [hs] at h'; cases h'
    | some l2 =>
      rw [hs] at h'
      have h1 := clStep_wt hs
      have h2 := clFold_wt xs l2 l' h'
      rw [wt_cons]
      omega
theorem clStep_len {l l' : List ByteArray} {x : ByteArray} (h : clStep l x = some l') : l'.length ≤ l.length + 1 := by
  unfold clStep at h
  split at h
  · injection h with h; subst h; omega
  · split at h
    · split at h
      · cases h
      · injection h with h; subst h; rw [List.length_dropLast]; omega
    · injection h with h; subst h; simp
theorem clFold_len : ∀ (xs l l' : List ByteArray), clFold l xs = some l' → l'.length ≤ l.length + xs.length
  | [], l, l', h => by
    have h : some l = some l' := h
    injection h with h
    subst h
    simp
  | x :: xs, l, l', h => by
    have h' : (match clStep l x with | none => none | some l' => clFold l' xs) = some l' := h
    cases hs : clStep l x with
    | none => rw [hs] at h'; cases h'
    | some l2 =>
      rw [hs] at h'
      have h1 := clStep_len hs
      have h2 := clFold_len xs l2 l' h'
      rw [List.length_cons]
      omega
theorem spL_wt : ∀ l : List UInt8, ((spL l).map fun x => x.length + 1).sum = l.length + 1
  | [] => rfl
  | b :: l => by
    have ih := spL_wt l
    rw [spL]
    split
    · rw [List.map_cons, List.sum_cons, ih, List.length_cons, List.length_nil]; omega
    · rw [← spL_head l, List.map_cons, List.sum_cons] at ih
      rw [List.map_cons, List.sum_cons, List.length_cons, List.length_cons]
      omega
theorem spS_wt (s : ByteArray) : wt (spS s) = s.size + 1 := by
  unfold wt spS
  rw [List.map_map]
  have h : (spL s.data.toList).map ((fun x : ByteArray => x.size + 1) ∘ mkB) = (spL s.data.toList).map fun x => x.length + 1 := List.map_congr_left fun a _ => by
    show (mkB a).size + 1 = a.length + 1
    rw [mkB_size]
  rw [h, spL_wt]
  simp
theorem wt_jn : ∀ l : List ByteArray, (jnL (datL l)).length ≤ wt l
  | [] => by simp [datL, jnL, wt]
  | [x] => by
    have h : x.data.toList.length = x.size := by simp
    show x.data.toList.length ≤ _
    rw [wt_cons]; omega
  | x :: y :: l => by
    have ih := wt_jn (y :: l)
    have h : x.data.toList.length = x.size := by simp
    have e : jnL (datL (x :: y :: l)) = x.data.toList ++ 47 :: jnL (datL (y :: l)) := jnL_cons _ _ (by simp [datL])
    rw [e, wt_cons, List.length_append, List.length_cons]
    omega
theorem wt_len : ∀ l : List ByteArray, l.length ≤ wt l
  | [] => by simp [wt]
  | x :: l => by
    have := wt_len l
    rw [wt_cons, List.length_cons]
    omega
/-- what is refused at once -/
def bad0 (s : ByteArray) : Bool := Lib.hasPrefix s.data.toList [47] || decide (0 ≤ Lib.indexByte s.data.toList 0)
def cleanO (s : ByteArray) : Option (List ByteArray) := if bad0 s = true then none else clFold [] (spS s)
def cleanS (s : ByteArray) : ByteArray := match cleanO s with
  | none => ⟨#[]⟩
  | some l => joinS l
def cleanB (s : ByteArray) : Bool := match cleanO s with
  | none => false
  | some l => joinB l
theorem own_same {w w' : World} {base : Nat} {e : TypeId} {size n : Nat} {v : Value} {xs : List Value} (h : w.ownsRow base e size v n xs) (he : ∀ k, some k = v.ownBlock → w'.heap[k]? = w.heap[k]?) : w'.ownsRow base e size v n xs := by
  refine ⟨h.1, ?_⟩
  rcases h.2 with h2 | ⟨g', cap, cur, rfl, h3, h4, h5⟩
  · exact .inl h2
  · exact .inr ⟨g', cap, cur, rfl, h3, (he g' rfl).trans h4, h5⟩
theorem own_pop {w : World} {base : Nat} {e : TypeId} {v : Value} {n : Nat} {xs : List Value} {x : Value} (h : w.ownsRow base e 1 v (n + 1) (xs ++ [x])) : ∃ g cap, v = .slice (some ⟨g, 0, none⟩) (n + 1) cap ∧ n + 1 ≤ cap ∧ cap ≤ maxLen ∧ w.ownsRow base e 1 (.slice (some ⟨g, 0, none⟩) n cap) n xs := by
  have hl := h.1
  rw [List.length_append, List.length_singleton] at hl
  rcases h.2 with ⟨_, h0⟩ | ⟨g, cap, cur, rfl, hb, hh, hc, hm, hsz, hx⟩
  · omega
  · refine ⟨g, cap, rfl, hc, hm, by omega, .inr ⟨g, cap, cur, rfl, hb, hh, by omega, hm, hsz, ?_⟩⟩
    have hxl : xs.length = n * 1 := by omega
    have h2 := congrArg (List.take (n * 1)) hx
    rw [List.take_take, Nat.min_eq_left (by omega), List.take_append_of_le_length (by omega), List.take_of_length_le (l := xs) (by omega)] at h2
    exact h2
theorem own_ownM {W W' : World} {row : Option Nat} {Mine : Nat → Prop} {B base : Nat} {e : TypeId} {size n : Nat} {v : Value} {xs : List Value} (h : W.ownsRow base e size v n xs) (hm : ∀ k, Mine k → k < base) (hg : W.grownBy W' row) (hr : ∀ r, row = some r → Mine r ∨ (B ≤ r ∧ ∃ o : Obj, W.heap[r]? = some o ∧ o.isCells = false)) : W'.ownsRow base e size v n xs := by
  refine own_same h fun k hk => ?_
  rcases h.2 with ⟨rfl, _⟩ | ⟨g, cap, cur, rfl, hb, hh, _⟩
  · cases hk
  · injection hk with hk
    subst hk
    refine hg.block k (Array.getElem?_eq_some_iff.1 hh).1 (fun e => ?_)
    rcases hr k e.symm with h1 | ⟨_, o, ho, hc⟩
    · have := hm k h1; omega
    · rw [hh] at ho; cases ho; cases hc
theorem keeps_own {W W' : World} {base : Nat} {e : TypeId} {size n : Nat} {v : Value} {xs : List Value} (h : W.ownsRow base e size v n xs) (hg : W.grownBy W' v.ownBlock) : KeepsOthers W W' :=
  ⟨hg.size, fun k o hk hc => by
    refine (hg.block k (Array.getElem?_eq_some_iff.1 hk).1 (fun e => ?_)).trans hk
    rcases h.2 with ⟨rfl, _⟩ | ⟨g, cap, cur, rfl, hb, hh, _⟩
    · cases e
    · injection e with e
      subst e
      rw [hh] at hk
      cases hk
      cases hc⟩
end Sw
/- The contract of name.Clean. -/
set_option linter.unusedVariables false
set_option linter.unusedSimpArgs false
namespace Go.Proofs.YtlogdionhgabdaaDoor
open Go Go.RowKit Go.Shelf
open Sw
attribute [local go_sem] Oper.semAt_some
theorem res_str_bool {P : Program} {fn : Func} {p q : Tmp} {ty t1 : TypeId} (h : fn.results = #[.cell p ty, .cell q t1]) (tmps : Array Value) (w : World) (g g1 : Nat) (u u1 : TypeId) (s : ByteArray) (b : Bool)
    (hp : tmps.getD p undef = .pointer (some ⟨g, 0, none⟩)) (hq : tmps.getD q undef = .pointer (some ⟨g1, 0, none⟩)) (hg : Blk w g u #[.string s]) (hg1 : Blk w g1 u1 #[.bool b]) (hu : P.underlying ty = some .string) (hu1 : P.underlying t1 = some .bool) :
    (results fn tmps).run P w = .ok (.tuple #[.string s, .bool b]) w := by
  have hp' : tmps[p]?.getD undef = .pointer (some ⟨g, 0, none⟩) := by simpa using hp
  have hq' : tmps[q]?.getD undef = .pointer (some ⟨g1, 0, none⟩) := by simpa using hq
  have c1 : w.cell? ⟨g, 0, none⟩ = some (.string s) := by have := hg.cell 0; simpa using this
  have c2 : w.cell? ⟨g1, 0, none⟩ = some (.bool b) := by have := hg1.cell 0; simpa using this
  have l1 : (loadVar ty ⟨g, 0, none⟩).run P w = .ok (.string s) w := by simp [loadVar, isAgg, run_underlying hu, run_load, c1]
  have l2 : (loadVar t1 ⟨g1, 0, none⟩).run P w = .ok (.bool b) w := by simp [loadVar, isAgg, run_underlying hu1, run_load, c2]
  simp [results, h, hp', hq', asAddr, l1, l2]
theorem str_empty (x : ByteArray) : x.toList.isEmpty = decide (x = ⟨#[]⟩) := by
  rw [ByteArray.toList_eq]
  by_cases h : x = ⟨#[]⟩
  · subst h; rfl
  · rw [decide_eq_false h]
    cases hd : x.data.toList with
    | nil => exact absurd (by rw [← mkB_data x, hd]; rfl) h
    | cons a t => rfl
theorem str_is (x : ByteArray) (l : List UInt8) : (x.toList == l) = decide (x = mkB l) := by
  rw [str_eq_iff, decide_eq_decide]
  constructor
  · intro h; rw [← mkB_data x, h]
  · intro h; rw [h, data_mkB]
/-- how Clean leaves a round -/
def ClX (s : ByteArray) (T : Nat) (c : Code) (pre : List (Pc s.size)) (W : World) : Prop :=
  clFold [] (pre.map (·.1)) = none ∧ c = .ret ∧ Blk W T 9 #[.string ⟨#[]⟩] ∧ Blk W (T + 1) 4 #[.bool false]
theorem clX_own {s : ByteArray} {T B M : Nat} (h1 : T + 1 < M) (c : Code) : OwnM (fun k => k = M) B (ClX s T c) :=
  fun pre W W' row hs hg hr => ⟨hs.1, hs.2.1, blk_ownM hs.2.2.1 (by omega) hg hr, blk_ownM hs.2.2.2 (by omega) hg hr⟩
end Go.Proofs.YtlogdionhgabdaaDoor
