/- Several texts, joined for the limit of sixty files; each one opens with its own comment. -/
import Derived.Test.YtlogdionhgabdaaDoorJoin18
import Derived.Test.YtlogdionhgabdaaDoorJoin2
import Derived.BigQuiet
import Derived.Laws.Rows
/- slices.BinarySearchFunc over a row of sorted.entry[int,int], as sorted.Map's find calls it. -/
set_option linter.unusedVariables false
set_option linter.unusedSimpArgs false
namespace Go.Proofs.YtlogdionhgabdaaDoor
open Go Go.RowKit
open Sw
def SrchPostII {α : Type} (f : α → Int) (l : List α) (w : World) (e : Ending) (w' : World) : Prop :=
  ∃ i : Nat, i ≤ l.length ∧ (∀ m (h : m < l.length), m < i → f l[m] < 0) ∧ (∀ m (h : m < l.length), i ≤ m → 0 ≤ f l[m]) ∧
    e = .returned (.tuple #[.int .i64 i, .bool (if h : i < l.length then decide (f l[i] = 0) else false)]) ∧ Below w.heap.size w w'
set_option maxRecDepth 100000 in
set_option maxHeartbeats 4000000 in
theorem slSearchII_any {α : Type} (E : α → List Value) (hE : ∀ x, (E x).length = 2) (f : α → Int) (w : World) (A : Option Addr) (n c g : Nat) (l : List α) (kv : Value) (hl : l.length = n) (hn : n ≤ 1000000) (hsl : SlOf w 2 E A l)
    (hmono : ∀ a b (ha : a < l.length) (hb : b < l.length), a ≤ b → f l[b] < 0 → f l[a] < 0)
    (hcall : ∀ W x, x ∈ l → Below w.heap.size w W → Calls Tryd.prog 36 #[.agg (E x).toArray, kv, .pointer (some ⟨g, 0, none⟩)] W fun e w' => e = .returned (.int .i64 (f x)) ∧ Below W.heap.size W w') :
    Calls Tryd.prog 35 #[.slice A n c, kv, .func (.func 36) #[] #[.pointer (some ⟨g, 0, none⟩)]] w (SrchPostII f l w) := by
  have HS := Lib.hid hsl; clear hsl
  have HL := Lib.hid hl; clear hl
  have HM := Lib.hid hmono; clear hmono
  have HC := Lib.hid hcall; clear hcall
  have HE := Lib.hid hE; clear hE
  go_enter Tryd.func35, Tryd.ntmps35
  go_wp2_with fail
  go_loopw [9, 10] (fun iv jv wr => ∃ i j : Nat, i ≤ j ∧ j ≤ n ∧ iv = .int .i64 i ∧ jv = .int .i64 j ∧ (∀ m (h : m < l.length), m < i → f l[m] < 0) ∧ (∀ m (h : m < l.length), j ≤ m → 0 ≤ f l[m]) ∧ Below w.heap.size w wr) (fun iv jv _ => (intOf jv - intOf iv).toNat)
  case atStart => exact ⟨0, n, Nat.zero_le _, Nat.le_refl _, rfl, rfl, fun m h h' => by omega, fun m h h' => by have := HL.out; omega, Below.refl _ _⟩
  case round =>
    obtain ⟨i, j, hij, hjn, rfl, rfl, hlo, hhi, hbr⟩ := hrel
    have HLO := Lib.hid hlo; clear hlo
    have HHI := Lib.hid hhi; clear hhi
    by_cases hlt : i < j
    · have hjL : j ≤ l.length := by have := HL.out; omega
      obtain ⟨h, hh⟩ : ∃ h : Nat, ((i : Int) + j) / 2 = h := ⟨(i + j) / 2, by omega⟩
      have hih : i ≤ h := by omega
      have hhj : h < j := by omega
      have hhL : h < l.length := by omega
      obtain ⟨b, off, rfl, hbb, _⟩ := (HS.out.below hbr (Nat.le_refl _)) (by omega)
      have HR := Lib.hid ((HS.out.below hbr (Nat.le_refl _)).range HE.out h hhL)
      have HF := Lib.hid (HC.out wr l[h] (List.getElem_mem hhL) hbr)
      have HX := Lib.hid (HE.out l[h])
      have HLO2 := Lib.hid (fun (hf : f l[h] < 0) m (hm : m < l.length) (hmh : m < h + 1) => (HM.out m h hm hhL (by omega) hf : f l[m] < 0))
      have HHI2 := Lib.hid (fun (hf : ¬ f l[h] < 0) m (hm : m < l.length) (hmh : h ≤ m) => (by
        refine Int.not_lt.1 fun hx => hf ?_
        exact HM.out h m hhL hm hmh hx : 0 ≤ f l[m]))
      generalize f l[h] = fv at *
      generalize E l[h] = ev at *
      have q1 : (i : Int) + j ≤ 2000000 := by omega
      have q2 : (h : Int) < n := by omega
      go_wp2_with (refine wpList_load_mid rfl 56 (.tmp 27) rfl b (off + h * 2) rfl ev _ HR.out Tryd.underlying56 rfl (by rw [HX.out]; kernel_rfl) ?_)
      refine HF.out.mono ?_
      rintro e w2 ⟨rfl, hb2⟩
      have hb3 := hbr.trans (hb2.mono hbr.size)
      clear HR HF
      by_cases hf : fv < 0
      · have H1 := Lib.hid (HLO2.out hf)
        go_wp2_with fail
        go_roundw
        case rel => exact ⟨h + 1, j, by omega, hjn, by go_num, rfl, H1.out, HHI.out, hb3⟩
        case measure => simp [intOf]; omega
      · have H1 := Lib.hid (HHI2.out (by omega))
        go_wp2_with fail
        go_roundw
        case rel => exact ⟨i, h, hih, by omega, rfl, by go_num, HLO.out, H1.out, hb3⟩
        case measure => simp [intOf]; omega
    · obtain rfl : i = j := by omega
      clear hij hlt
      by_cases hin : i < n
      · have hiL : i < l.length := by have := HL.out; omega
        obtain ⟨b, off, rfl, hbb, _⟩ := (HS.out.below hbr (Nat.le_refl _)) (by omega)
        have HR := Lib.hid ((HS.out.below hbr (Nat.le_refl _)).range HE.out i hiL)
        have HF := Lib.hid (HC.out wr l[i] (List.getElem_mem hiL) hbr)
        have HX := Lib.hid (HE.out l[i])
        have HP := Lib.hid (fun w' (hb : Below w.heap.size w w') => (⟨i, by omega, HLO.out, HHI.out, by rw [dif_pos hiL], hb⟩ : SrchPostII f l w (.returned (.tuple #[.int .i64 i, .bool (decide (f l[i] = 0))])) w'))
        generalize f l[i] = fv at *
        generalize E l[i] = ev at *
        have q2 : (i : Int) < n := by omega
        go_wp2_with (refine wpList_load_row_g rfl 56 (.tmp 43) rfl b (off + i * 2) rfl ev _ HR.out Tryd.underlying56 rfl (by rw [HX.out]; kernel_rfl) ?_)
        refine HF.out.mono ?_
        rintro e w2 ⟨rfl, hb2⟩
        have hb3 := hbr.trans (hb2.mono hbr.size)
        have HQ := Lib.hid (HP.out w2 hb3)
        have hbq : (fv == 0) = decide (fv = 0) := rfl
        go_wp2_with fail
        go_ret2
        exact HQ.out
      · obtain rfl : i = n := by omega
        have HP := Lib.hid (fun w' (hb : Below w.heap.size w w') => (⟨i, by have := HL.out; omega, HLO.out, HHI.out, by rw [dif_neg (by have := HL.out; omega)], hb⟩ : SrchPostII f l w (.returned (.tuple #[.int .i64 i, .bool false])) w'))
        go_wp2_with fail
        go_ret2
        exact HP.out _ hbr
end Go.Proofs.YtlogdionhgabdaaDoor
/- A region that draws its order, whose calls may make memory: one walk in the text's order, in a class of worlds. Over any program. -/
set_option linter.unusedVariables false
namespace Sw
open Go Go.RowKit
/-- the worlds of which S holds -/
def Held (S : World → Prop) : Type := { w : World // S w }
def HeldW {S : World → Prop} (n : Held S) : World := n.1
theorem HeldW_spec {S : World → Prop} (n : Held S) : S (HeldW n) := n.2
theorem held_mk {S : World → Prop} (w : World) (h : S w) : ∃ n : Held S, w = HeldW n := ⟨⟨w, h⟩, rfl⟩
theorem held_some {S : World → Prop} {w : World} (h : S w) : Nonempty (Held S) := ⟨⟨w, h⟩⟩
theorem wp_region_class {P : Program} (S : World → Prop) {id : Nat} {Q : Exit → Act → World → Prop} {a : Act} {w : World} {l : List Oper} (hm : P.follows .mixedOrders = true) (hB : Region.lexB .any l.toArray = true) (hS : S w.drew)
    (h : wpQuiet P l.toArray (fun w' => ∃ n : Held S, w' = HeldW n) (fun a' => ∀ w', (∃ n : Held S, w' = HeldW n) → Q .normal a' w') l a) : (Code.region id l.toArray true).wp P Q a w :=
  wp_region_quiet (C := fun w' => ∃ n : Held S, w' = HeldW n) hm hB (held_mk (S := S) w.drew hS) (by simpa using h)
/-- a callee that leaves the world as it was -/
theorem held_same {P : Program} {S : World → Prop} {f : FuncId} {args : Array Value} {n : Held S} {v : Value} (h : Calls P f args (HeldW n) fun e w' => e = .returned v ∧ HeldW n = w') :
    Calls P f args (HeldW n) fun e w'' => e = .returned v ∧ ∃ m : Held S, w'' = HeldW m := h.mono fun e w' hr => ⟨hr.1, n, hr.2.symm⟩
/-- a callee that makes memory -/
theorem held_below {P : Program} {S : World → Prop} {f : FuncId} {args : Array Value} {n : Held S} {v : Value} (hS : ∀ w w' : World, S w → Below w.heap.size w w' → S w') (h : Calls P f args (HeldW n) fun e w' => e = .returned v ∧ Below (HeldW n).heap.size (HeldW n) w') :
    Calls P f args (HeldW n) fun e w'' => e = .returned v ∧ ∃ m : Held S, w'' = HeldW m := h.mono fun e w' hr => ⟨hr.1, held_mk _ (hS _ _ (HeldW_spec n) hr.2)⟩
/-- a callee that draws -/
theorem held_drew {P : Program} {S : World → Prop} {f : FuncId} {args : Array Value} {n : Held S} {v : Value} (hS : ∀ (w : World) (k : Nat), S w → S (w.drewN k)) (h : Calls P f args (HeldW n) fun e w' => e = .returned v ∧ ∃ k, w' = (HeldW n).drewN k) :
    Calls P f args (HeldW n) fun e w'' => e = .returned v ∧ ∃ m : Held S, w'' = HeldW m := h.mono fun e w' hr => by
  obtain ⟨he, k, rfl⟩ := hr
  exact ⟨he, held_mk _ (hS _ k (HeldW_spec n))⟩
/-- the worlds in which what lay in a lies as it lay -/
def Aft (a : World) (W : World) : Prop := Below a.heap.size a W
theorem Aft.keep {a : World} : ∀ w w' : World, Aft a w → Below w.heap.size w w' → Aft a w' := fun _ _ h k => Below.trans h (k.mono (Below.size h))
theorem Aft.drews {a : World} : ∀ (w : World) (k : Nat), Aft a w → Aft a (w.drewN k) := fun _ k h => below_drewN h k
theorem Aft.start (a : World) : Aft a a.drew := (Below.refl _ a).drew
theorem Aft.cell {a : World} (n : Held (Aft a)) {p : Addr} (hp : p.block < a.heap.size) : (HeldW n).cell? p = a.cell? p := Below.cell (HeldW_spec n) hp
theorem Aft.some (a : World) : Nonempty (Held (Aft a)) := held_some (S := Aft a) (w := a.drew) (Aft.start a)
/-- a load of a whole row, inside a quiet walk -/
theorem quiet_load_row {P : Program} {C : World → Prop} {o : Oper} {a : Act} {K : Act → Prop} (ty : TypeId) (x : Operand) (ho : o.op = .load ty x)
    (g : Nat) (hx : a.eval x = .pointer (some ⟨g, 0, none⟩)) (t : TypeId) (cs : Array Value) (fr : Nat × Nat) (d : TypeDesc) (hg : ∀ w, C w → w.heap[g]? = some (.cells cs t fr))
    (hu : P.underlying ty = some d) (hd : (match d with | .struct _ | .array _ _ => true | _ => false) = true) (hi : (P.info? ty).map (·.size) = some cs.size)
    (hk : K (a.put o.dst (.agg cs))) : o.quiet P a C K :=
  ⟨_, fun w hC => by
    unfold Oper.quietAt execOp
    simp only [ho, hx, Instr.loadAt, Instr.sureAddr, Sem.run_bind, Sem.run_pure, Result.andThen_ok, run_loadVar_row w g t ty cs fr d (hg w hC) hu hd hi]
    exact ⟨rfl, rfl⟩, hk⟩
end Sw
