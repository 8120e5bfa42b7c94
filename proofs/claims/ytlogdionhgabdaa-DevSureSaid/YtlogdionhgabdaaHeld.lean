/- A region that draws its order, whose calls may make memory: one walk in the text's order, in a class of worlds. Over any program. -/
import Derived.Test.YtlogdionhgabdaaKit
import Derived.BigQuiet
import Derived.Laws.Rows
set_option linter.unusedVariables false
namespace Sw
open Go Go.RowKit
/-- the worlds of which S holds -/
def Held (S : World → Prop) : Type := { w : World // S w }
def HeldW {S : World → Prop} (n : Held S) : World := n.1
theorem HeldW_spec {S : World → Prop} (n : Held S) : S (HeldW n) := n.2
theorem held_mk {S : World → Prop} (w : World) (h : S w) : ∃ n : Held S, w = HeldW n := ⟨⟨w, h⟩, rfl⟩
theorem held_some {S : World → Prop} {w : World} (h : S w) : Nonempty (Held S) := ⟨⟨w, h⟩⟩
theorem wp_region_class {P : Program} (S : World → Prop) {id : Nat} {Q : Exit → Act → World → Prop} {a : Act} {w : World} {l : List Oper} (hm : P.follows .mixedOrders = true) (hB : Region.lexB .any l.toArray = true) (hS : S w.drew)
    (h : wpQuiet P l.toArray (fun w' => ∃ n : Held S, w' = HeldW n) (fun a' => ∀ w', (∃ n : Held S, w' = HeldW n) → Q .normal a' w') l a) : (Code.region id l.toArray true).wp P Q a w :=
  wp_region_quiet (C := fun w' => ∃ n : Held S, w' = HeldW n) hm hB (held_mk (S := S) w.drew hS) (by simpa using h)
/-- a callee that leaves the world as it was -/
theorem held_same {P : Program} {S : World → Prop} {f : FuncId} {args : Array Value} {n : Held S} {v : Value} (h : Calls P f args (HeldW n) fun e w' => e = .returned v ∧ HeldW n = w') :
    Calls P f args (HeldW n) fun e w'' => e = .returned v ∧ ∃ m : Held S, w'' = HeldW m := h.mono fun e w' hr => ⟨hr.1, n, hr.2.symm⟩
/-- a callee that makes memory -/
theorem held_below {P : Program} {S : World → Prop} {f : FuncId} {args : Array Value} {n : Held S} {v : Value} (hS : ∀ w w' : World, S w → Below w.heap.size w w' → S w') (h : Calls P f args (HeldW n) fun e w' => e = .returned v ∧ Below (HeldW n).heap.size (HeldW n) w') :
    Calls P f args (HeldW n) fun e w'' => e = .returned v ∧ ∃ m : Held S, w'' = HeldW m := h.mono fun e w' hr => ⟨hr.1, held_mk _ (hS _ _ (HeldW_spec n) hr.2)⟩
/-- a callee that draws -/
theorem held_drew {P : Program} {S : World → Prop} {f : FuncId} {args : Array Value} {n : Held S} {v : Value} (hS : ∀ (w : World) (k : Nat), S w → S (w.drewN k)) (h : Calls P f args (HeldW n) fun e w' => e = .returned v ∧ ∃ k, w' = (HeldW n).drewN k) :
    Calls P f args (HeldW n) fun e w'' => e = .returned v ∧ ∃ m : Held S, w'' = HeldW m := h.mono fun e w' hr => by
  obtain ⟨he, k, rfl⟩ := hr
  exact ⟨he, held_mk _ (hS _ k (HeldW_spec n))⟩
/-- the worlds in which what lay in a lies as it lay -/
def Aft (a : World) (W : World) : Prop := Below a.heap.size a W
theorem Aft.keep {a : World} : ∀ w w' : World, Aft a w → Below w.heap.size w w' → Aft a w' := fun _ _ h k => Below.trans h (k.mono (Below.size h))
theorem Aft.drews {a : World} : ∀ (w : World) (k : Nat), Aft a w → Aft a (w.drewN k) := fun _ k h => below_drewN h k
theorem Aft.start (a : World) : Aft a a.drew := (Below.refl _ a).drew
theorem Aft.cell {a : World} (n : Held (Aft a)) {p : Addr} (hp : p.block < a.heap.size) : (HeldW n).cell? p = a.cell? p := Below.cell (HeldW_spec n) hp
theorem Aft.some (a : World) : Nonempty (Held (Aft a)) := held_some (S := Aft a) (w := a.drew) (Aft.start a)
/-- a load of a whole row, inside a quiet walk -/
theorem quiet_load_row {P : Program} {C : World → Prop} {o : Oper} {a : Act} {K : Act → Prop} (ty : TypeId) (x : Operand) (ho : o.op = .load ty x)
    (g : Nat) (hx : a.eval x = .pointer (some ⟨g, 0, none⟩)) (t : TypeId) (cs : Array Value) (fr : Nat × Nat) (d : TypeDesc) (hg : ∀ w, C w → w.heap[g]? = some (.cells cs t fr))
    (hu : P.underlying ty = some d) (hd : (match d with | .struct _ | .array _ _ => true | _ => false) = true) (hi : (P.info? ty).map (·.size) = some cs.size)
    (hk : K (a.put o.dst (.agg cs))) : o.quiet P a C K :=
  ⟨_, fun w hC => by
    unfold Oper.quietAt execOp
    simp only [ho, hx, Instr.loadAt, Instr.sureAddr, Sem.run_bind, Sem.run_pure, Result.andThen_ok, run_loadVar_row w g t ty cs fr d (hg w hC) hu hd hi]
    exact ⟨rfl, rfl⟩, hk⟩
end Sw
