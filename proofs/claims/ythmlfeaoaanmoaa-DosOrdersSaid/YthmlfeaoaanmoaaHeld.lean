/- A region that draws its order, whose calls may make memory: one walk in the text's order, in a class of worlds. Over any program. -/
import Derived.Test.YthmlfeaoaanmoaaKit
import Derived.BigQuiet
set_option linter.unusedVariables false
namespace Sw
open Go Go.RowKit
/-- the worlds of which S holds -/
def Held (S : World → Prop) : Type := { w : World // S w }
def HeldW {S : World → Prop} (n : Held S) : World := n.1
theorem HeldW_spec {S : World → Prop} (n : Held S) : S (HeldW n) := n.2
theorem held_mk {S : World → Prop} (w : World) (h : S w) : ∃ n : Held S, w = HeldW n := ⟨⟨w, h⟩, rfl⟩
theorem held_some {S : World → Prop} {w : World} (h : S w) : Nonempty (Held S) := ⟨⟨w, h⟩⟩
theorem wp_region_class {P : Program} (S : World → Prop) {id : Nat} {Q : Exit → Act → World → Prop} {a : Act} {w : World} {l : List Oper} (hm : P.follows .mixedOrders = true) (hB : Region.lexB .any l.toArray = true) (hS : S w.drew)
    (h : wpQuiet P l.toArray (fun w' => ∃ n : Held S, w' = HeldW n) (fun a' => ∀ w', (∃ n : Held S, w' = HeldW n) → Q .normal a' w') l a) : (Code.region id l.toArray true).wp P Q a w :=
  wp_region_quiet (C := fun w' => ∃ n : Held S, w' = HeldW n) hm hB (held_mk (S := S) w.drew hS) (by simpa using h)
/-- a callee that leaves the world as it was -/
theorem held_same {P : Program} {S : World → Prop} {f : FuncId} {args : Array Value} {n : Held S} {v : Value} (h : Calls P f args (HeldW n) fun e w' => e = .returned v ∧ HeldW n = w') :
    Calls P f args (HeldW n) fun e w'' => e = .returned v ∧ ∃ m : Held S, w'' = HeldW m := h.mono fun e w' hr => ⟨hr.1, n, hr.2.symm⟩
/-- a callee that makes memory -/
theorem held_below {P : Program} {S : World → Prop} {f : FuncId} {args : Array Value} {n : Held S} {v : Value} (hS : ∀ w w' : World, S w → Below w.heap.size w w' → S w') (h : Calls P f args (HeldW n) fun e w' => e = .returned v ∧ Below (HeldW n).heap.size (HeldW n) w') :
    Calls P f args (HeldW n) fun e w'' => e = .returned v ∧ ∃ m : Held S, w'' = HeldW m := h.mono fun e w' hr => ⟨hr.1, held_mk _ (hS _ _ (HeldW_spec n) hr.2)⟩
/-- a callee that draws -/
theorem held_drew {P : Program} {S : World → Prop} {f : FuncId} {args : Array Value} {n : Held S} {v : Value} (hS : ∀ (w : World) (k : Nat), S w → S (w.drewN k)) (h : Calls P f args (HeldW n) fun e w' => e = .returned v ∧ ∃ k, w' = (HeldW n).drewN k) :
    Calls P f args (HeldW n) fun e w'' => e = .returned v ∧ ∃ m : Held S, w'' = HeldW m := h.mono fun e w' hr => by
  obtain ⟨he, k, rfl⟩ := hr
  exact ⟨he, held_mk _ (hS _ k (HeldW_spec n))⟩
end Sw
