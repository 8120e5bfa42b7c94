/- Plain laws of runs: the steps of a row, the row of steps. No program here. -/
import Derived.Test.YthmlfeaoaanmoaaRunsNextB
set_option linter.unusedVariables false
set_option linter.unusedSimpArgs false
namespace Sw
/-- all lengths from 0 to 15 -/
def goodB (l : List Int) : Bool := l.all fun k => decide (0 ≤ k ∧ k ≤ 15)
theorem goodB_at {l : List Int} (h : goodB l = true) (i : Nat) (hi : i < l.length) : 0 ≤ l[i] ∧ l[i] ≤ 15 := by
  have := List.all_eq_true.1 h l[i] (List.getElem_mem hi)
  simpa using this
theorem goodB_drop {l : List Int} (h : goodB l = true) (n : Nat) : goodB (l.drop n) = true := by
  unfold goodB at *
  rw [List.all_eq_true] at *
  exact fun x hx => h x (List.mem_of_mem_drop hx)
theorem cntRun_at (k : Int) (l : List Int) : ∀ n, n ≤ cntRun k l → l.take n = List.replicate n k := by
  induction l with
  | nil => intro n h; simp [cntRun] at h; subst h; rfl
  | cons a l ih =>
    intro n h
    rw [cntRun] at h
    split at h
    · rename_i e; subst e
      match n with
      | 0 => rfl
      | n + 1 => rw [List.take_succ_cons, ih n (by omega), List.replicate_succ]
    · have : n = 0 := by omega
      subst this; rfl
theorem cntRun_neg {k : Int} {l : List Int} (h : goodB l = true) (hk : k < 0) : cntRun k l = 0 := by
  match l with
  | [] => rfl
  | a :: l =>
    have := goodB_at h 0 (by simp)
    simp at this
    rw [cntRun, if_neg (by omega)]
/-- what a step stands for: how many, and which -/
def timesS (s : St) : Int := if s.sym = 16 ∨ s.sym = 17 then 3 + s.more else if s.sym = 18 then 11 + s.more else 1
def valS (s : St) (out : List Int) : Int := if s.sym = 16 then out.getD (out.length - 1) 0 else if s.sym = 17 ∨ s.sym = 18 then 0 else s.sym
def badS (s : St) (out : List Int) : Bool :=
  decide (bitsI s.sym < 0 ∨ s.bits ≠ bitsI s.sym ∨ s.more < 0 ∨ 2 ^ (bitsI s.sym).toNat ≤ s.more ∨ (s.sym = 16 ∧ out.length = 0))
theorem nextS_props (l : List Int) (ahead : Int) (hl : 0 < l.length) :
    1 ≤ (nextS l ahead).2 ∧ (nextS l ahead).2 ≤ l.length ∧ (nextS l ahead).2 ≤ 138 := by
  have h0 := cntRun_le 0 l
  have h1 := cntRun_le ahead l
  unfold nextS stepS capI
  split
  · simp; omega
  split
  · simp; omega
  split
  · simp; omega
  · simp; omega
/-- the steps of a row, behind a length; f: at least how long the row is -/
def ofGo : Nat → List Int → Int → List St
  | 0, _, _ => []
  | f + 1, l, ahead => if l.length = 0 then [] else (nextS l ahead).1 :: ofGo f (l.drop (nextS l ahead).2.toNat) (l.getD ((nextS l ahead).2.toNat - 1) 0)
def ofL (l : List Int) : List St := ofGo l.length l (-1)
theorem ofGo_len : ∀ (f : Nat) (l : List Int) (a : Int), (ofGo f l a).length ≤ l.length
  | 0, l, _ => by simp [ofGo]
  | f + 1, l, a => by
    rw [ofGo]
    split
    · simp
    · rename_i h
      have hp := nextS_props l a (by omega)
      have := ofGo_len f (l.drop (nextS l a).2.toNat) (l.getD ((nextS l a).2.toNat - 1) 0)
      rw [List.length_drop] at this
      simp only [List.length_cons]
      omega
def backGo : List St → List Int → Option (List Int)
  | [], out => some out
  | s :: ss, out => if badS s out = true ∨ 400 < timesS s + out.length then none else backGo ss (out ++ List.replicate (timesS s).toNat (valS s out))
theorem nextS_back (l : List Int) (ahead : Int) (hl : 0 < l.length) (hg : goodB l = true) (out : List Int) (hout : out.length = 0 → ahead < 0) (hlast : out.length ≠ 0 → ahead = out.getD (out.length - 1) 0) :
    badS (nextS l ahead).1 out = false ∧ timesS (nextS l ahead).1 = (nextS l ahead).2 ∧ List.replicate (nextS l ahead).2.toNat (valS (nextS l ahead).1 out) = l.take (nextS l ahead).2.toNat := by
  have h0 := cntRun_at 0 l
  have h1 := cntRun_at ahead l
  have hneg := fun h => cntRun_neg (k := ahead) hg h
  have hhead := goodB_at hg 0 hl
  unfold nextS
  split
  · refine ⟨?_, ?_, ?_⟩
    · simp [stepS, badS, bitsI, capI, leastI]; omega
    · simp [stepS, timesS, capI, leastI]; omega
    · rw [h0 _ (by simp [stepS, capI]; omega)]
      simp [stepS, valS]
  split
  · refine ⟨?_, ?_, ?_⟩
    · simp [stepS, badS, bitsI, capI, leastI]; omega
    · simp [stepS, timesS, capI, leastI]; omega
    · rw [h0 _ (by simp [stepS, capI]; omega)]
      simp [stepS, valS]
  split
  · have hne : out.length ≠ 0 := by
      intro h; have := hneg (hout h); omega
    refine ⟨?_, ?_, ?_⟩
    · simp [stepS, badS, bitsI, capI, leastI]; refine ⟨by omega, by omega, ?_⟩; intro h; exact hne (by rw [h]; rfl)
    · simp [stepS, timesS, capI, leastI]; omega
    · rw [h1 _ (by simp [stepS, capI]; omega)]
      have := hlast hne
      simp only [stepS, valS, if_true]
      rw [← this]
  · have hh : l.headD 0 = l[0] := by
      match l, hl with
      | x :: _, _ => rfl
    rw [hh]
    refine ⟨?_, ?_, ?_⟩
    · have hb : bitsI l[0] = 0 := by unfold bitsI; rw [if_neg (by omega), if_pos hhead.2]
      simp [badS, hb]; omega
    · simp [timesS]; omega
    · simp [valS]
      match l, hl with
      | x :: l, _ =>
        simp at hhead ⊢
        rw [if_neg (by omega), if_neg (by omega)]
theorem back_of : ∀ (f : Nat) (l : List Int) (ahead : Int) (out : List Int), l.length ≤ f → goodB l = true → out.length + l.length ≤ 400 → (out.length = 0 → ahead < 0) → (out.length ≠ 0 → ahead = out.getD (out.length - 1) 0) →
    backGo (ofGo f l ahead) out = some (out ++ l)
  | 0, l, _, out, hf, _, _, _, _ => by
    have : l = [] := List.length_eq_zero_iff.1 (by omega)
    subst this
    simp [ofGo, backGo]
  | f + 1, l, ahead, out, hf, hg, hle, h1, h2 => by
    rw [ofGo]
    split
    · rename_i h
      have : l = [] := List.length_eq_zero_iff.1 h
      subst this
      simp [backGo]
    · rename_i h
      have hp := nextS_props l ahead (by omega)
      obtain ⟨hb, ht, hr⟩ := nextS_back l ahead (by omega) hg out h1 h2
      rw [backGo, hb, ht, hr]
      rw [if_neg (by simp; omega)]
      generalize hn : (nextS l ahead).2.toNat = n at *
      have hn1 : 1 ≤ n := by omega
      have hn2 : n ≤ l.length := by omega
      have hlen : (out ++ l.take n).length = out.length + n := by rw [List.length_append, List.length_take]; omega
      rw [back_of f (l.drop n) _ (out ++ l.take n) (by rw [List.length_drop]; omega) (goodB_drop hg n) (by rw [hlen, List.length_drop]; omega) (by rw [hlen]; omega) ?_]
      · rw [List.append_assoc, List.take_append_drop]
      · intro _
        rw [hlen]
        rw [List.getD_eq_getElem?_getD, List.getD_eq_getElem?_getD, List.getElem?_append_right (by omega), List.getElem?_take, if_pos (by omega)]
        congr 2
        omega
theorem back_ofL (l : List Int) (hg : goodB l = true) (hl : l.length ≤ 400) : backGo (ofL l) [] = some l := by
  have := back_of l.length l (-1) [] (Nat.le_refl _) hg (by simpa using hl) (by simp) (by simp)
  simpa [ofL] using this
/-- how often a symbol comes -/
def countS (l : List St) (k : Nat) : Int := (l.filter fun s => decide (s.sym = (k : Int))).length
theorem countS_snoc (l : List St) (s : St) (k : Nat) : countS (l ++ [s]) k = countS l k + if s.sym = (k : Int) then 1 else 0 := by
  unfold countS
  rw [List.filter_append]
  by_cases h : s.sym = (k : Int) <;> simp [List.filter_cons, h]
theorem firstBad : ∀ l : List Int, ¬ goodB l = true → ∃ j, ∃ hj : j < l.length, ¬ (0 ≤ l[j] ∧ l[j] ≤ 15) ∧ ∀ i (hi : i < j), 0 ≤ l[i]'(by omega) ∧ l[i]'(by omega) ≤ 15
  | [], h => absurd rfl h
  | a :: l, h => by
    by_cases ha : 0 ≤ a ∧ a ≤ 15
    · have hl : ¬ goodB l = true := by
        intro hg
        apply h
        unfold goodB at *
        rw [List.all_cons, hg, decide_eq_true ha]; rfl
      obtain ⟨j, hj, h1, h2⟩ := firstBad l hl
      refine ⟨j + 1, by simp; omega, by simpa using h1, fun i hi => ?_⟩
      match i with
      | 0 => simpa using ha
      | i + 1 => simpa using h2 i (by omega)
    · exact ⟨0, by simp, by simpa using ha, fun i hi => by omega⟩
end Sw
