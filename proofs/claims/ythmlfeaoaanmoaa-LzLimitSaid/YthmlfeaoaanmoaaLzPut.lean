/- The finder of lz: what it knows; the contract of put. -/
import Derived.Test.YthmlfeaoaanmoaaLzKey
set_option linter.unusedVariables false
set_option linter.unusedSimpArgs false
namespace Go.Proofs.Ythmlfeaoaanmoaa
open Go Go.RowKit Go.Maps
open Sw
def rowZ (l : List Int) : List Value := l.map fun k => .int .i64 k
theorem rowZ_snoc (l : List Int) (k : Int) : rowZ (l ++ [k]) = rowZ l ++ [.int .i64 k] := by simp [rowZ]
theorem info_z : (Try.prog.info? 3).map (fun i => (i.zero, i.size, i.bytes)) = some (some (.int .i64 0), 1, 8) := by kernel_rfl
/-- what the map of a finder says behind m places -/
structure DOk (s : ByteArray) (m : Nat) (D : DataW Unit) : Prop where
  isM : Maps.IsMap D
  vals : ∀ kl c, Maps.has D kl = true → D.atKey kl (.lit (.int .i64 0)) = .lit (.int .i64 c) → 0 ≤ c ∧ c < m
  last : ∀ (h : 1 ≤ m) (h2 : m + 2 ≤ s.size), Maps.has D (keyL (s[m - 1]'(by omega)) (s[m]'(by omega)) (s[m + 1]'(by omega))) = true ∧ D.atKey (keyL (s[m - 1]'(by omega)) (s[m]'(by omega)) (s[m + 1]'(by omega))) (.lit (.int .i64 0)) = .lit (.int .i64 ((m : Int) - 1))
theorem DOk.short {s : ByteArray} {m : Nat} {D : DataW Unit} (h : DOk s m D) (hs : s.size < m + 3) : DOk s (m + 1) D :=
  ⟨h.isM, fun kl c h1 h2 => by have := h.vals kl c h1 h2; omega, fun _ h2 => by omega⟩
theorem DOk.put {s : ByteArray} {m : Nat} {D : DataW Unit} (h : DOk s m D) (h0 : m < s.size) (h1 : m + 1 < s.size) (h2 : m + 2 < s.size) : DOk s (m + 1) (D.put (keyL s[m] s[m + 1] s[m + 2]) (.lit (.int .i64 (m : Int)))) := by
  have hk : WideAt.IsKeyLit (keyL s[m] s[m + 1] s[m + 2]) := three_keyed.key (keyOf_three _ _ _)
  refine ⟨h.isM.put _ _, fun kl c h3 h4 => ?_, fun h3 h4 => ?_⟩
  · by_cases he : kl = keyL s[m] s[m + 1] s[m + 2]
    · subst he
      rw [Maps.atKey_put_same h.isM hk] at h4
      injection h4 with h4
      injection h4 with _ h4
      omega
    · rw [Maps.has_put_other he] at h3
      rw [Maps.atKey_put_other he] at h4
      have := h.vals kl c h3 h4
      omega
  · simp only [Nat.add_sub_cancel]
    refine ⟨Maps.has_put_same h.isM hk _, ?_⟩
    rw [Maps.atKey_put_same h.isM hk]
    congr 2
    omega
/-- what a finder knows behind m places -/
structure Fd (w : World) (base g b : Nat) (s : ByteArray) (dp : Value) (m : Nat) (av : Value) (D : DataW Unit) (ah : List Int) : Prop where
  blk : Blk w g 105 #[.string s, .map (some b), av, dp]
  own : w.ownsMap Try.prog 124 (plainElem Try.prog 3) b m D
  row : w.ownsRow base 3 1 av m (rowZ ah)
  ok : DOk s m D
  low : ∀ p (h : p < ah.length), -1 ≤ ah[p] ∧ ah[p] < p
  gb : base ≤ g
  bb : base ≤ b
set_option maxRecDepth 100000 in
/-- a lookup by three bytes, in whatever world the map lies -/
theorem look_three {b m : Nat} {D : DataW Unit} {w : World} (h : w.ownsMap Try.prog 124 (plainElem Try.prog 3) b m D) (x y z : UInt8) :
    ∃ c : Int, D.atKey (keyL x y z) (.lit (.int .i64 0)) = .lit (.int .i64 c) ∧ ∀ W : World, W.ownsMap Try.prog 124 (plainElem Try.prog 3) b m D →
      (Instr.lookup 103 (.map (some b)) (.agg (keyC x y z)) true).run Try.prog W = .ok (.tuple #[.int .i64 c, .bool (Maps.has D (keyL x y z))]) W := by
  have key : ∀ W : World, W.ownsMap Try.prog 124 (plainElem Try.prog 3) b m D → ∃ c : Int, D.atKey (keyL x y z) (.lit (.int .i64 0)) = .lit (.int .i64 c) ∧
      (Instr.lookup 103 (.map (some b)) (.agg (keyC x y z)) true).run Try.prog W = .ok (.tuple #[.int .i64 c, .bool (Maps.has D (keyL x y z))]) W := fun W hW => by
    obtain ⟨v, ps, hrun, hv⟩ := hW.look_ok three_keyed Try.underlying103 (Try.zeroValue3 W) (plainElem_int Try.underlying3 (by decide)) (keyOf_three x y z)
    obtain ⟨c, rfl, hc, _⟩ := plainElem_int_inv Try.underlying3 hv
    simp only [Prod.mk.injEq] at hc
    exact ⟨c, hc.1, hrun⟩
  obtain ⟨c, hc, _⟩ := key w h
  refine ⟨c, hc, fun W hW => ?_⟩
  obtain ⟨c', hc', hrun⟩ := key W hW
  rw [hc] at hc'
  injection hc' with hc'
  injection hc' with _ hc'
  subst hc'
  exact hrun
end Go.Proofs.Ythmlfeaoaanmoaa
