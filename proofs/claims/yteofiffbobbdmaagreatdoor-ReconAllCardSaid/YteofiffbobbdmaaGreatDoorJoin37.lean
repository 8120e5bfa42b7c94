/- Several texts, joined for the limit of sixty files; each one opens with its own comment. -/
import Derived.Test.YteofiffbobbdmaaGreatDoorJoin5
import Derived.Sort.BigQuietIn
import Derived.RangeFuncCalls
import Derived.Test.YteofiffbobbdmaaGreatDoorJoin29
import Derived.Test.YteofiffbobbdmaaGreatDoorJoin36
import Derived.Test.YteofiffbobbdmaaGreatDoorJoin2
import Derived.Test.YteofiffbobbdmaaGreatDoorJoin26
import Derived.Test.YteofiffbobbdmaaGreatDoorJoin34
/- XHeld's law inside a fence, in a round too: a region that draws its order, whose calls may make memory: one walk in the text's order, in a class of worlds. Over any program. -/
set_option linter.unusedVariables false
namespace Sw
open Go Go.RowKit
section
variable {F : Fence} {n : Nat} {P : Program} {ops : Array Oper} {md : Region.Mode} {C : World → Prop}
theorem round_quiet {o : Oper} {a : Act} {K : Act → Prop} {K' : Act → World → Prop} {Q' : Exit → Act → World → Prop} {w : World} (hnd : ∀ c, o.op ≠ .defer c) (hw : C w) (h : ∀ a w', C w' → K a → K' a w')
    (ha : o.askedIn F P a C) (hh : o.quietIn F n P a C K) : o.wpIn F n P a w K' Q' := by
  obtain ⟨v, h1, h2⟩ := hh
  have h3 := h1 w hw
  unfold Oper.quietAtIn at h3
  unfold Oper.wpIn
  refine ⟨ha w hw, ?_⟩
  rw [Oper.semAt_eq _ _ _ hnd]
  generalize (execOp a.eval o).run P w = r at *
  cases r with
  | halt x w' => exact h3.elim
  | ok x w' =>
    cases x with
    | value u => obtain ⟨rfl, rfl⟩ := h3; exact h _ _ hw h2
    | skip => obtain ⟨rfl, rfl⟩ := h3; exact h _ _ hw h2
    | enter f args =>
      obtain ⟨rfl, hd, hc⟩ := h3
      exact ⟨hd, hc.mono fun e w'' hr => by obtain ⟨rfl, hw''⟩ := hr; exact h _ _ hw'' h2⟩
    | _ => exact h3.elim
theorem round_op {i : Nat} {a : Act} {K : Act → Prop} {K' : Act → World → Prop} {Q' : Exit → Act → World → Prop} {w : World} (hnd : ∀ (i : Nat) (o : Oper), ops[i]? = some o → ∀ c, o.op ≠ .defer c) (hC : C w) (h : ∀ a w', C w' → K a → K' a w')
    (hh : qOpIn F n P ops C i K a) : wpOpIn F n P ops Q' i K' a w := by
  unfold qOpIn at hh
  unfold wpOpIn
  split
  · rename_i ho; simp only [ho] at hh; exact h _ _ hC hh
  · rename_i o ho
    simp only [ho] at hh
    obtain ⟨ha, hh⟩ := hh
    split
    · rename_i hw; simp only [hw, if_true] at hh; exact round_quiet (hnd i o ho) hC h ha hh
    · rename_i hw; simp only [hw] at hh; exact ⟨ha w hC, h _ _ hC hh⟩
theorem round_any {Q : Act → Prop} {Q' : Exit → Act → World → Prop} (hnd : ∀ (i : Nat) (o : Oper), ops[i]? = some o → ∀ c, o.op ≠ .defer c) (hQ : ∀ a w, C w → Q a → Q' .normal a w) : ∀ (fuel : Nat) (listed : Array Bool) (a : Act) (w : World), C w →
    wpAnyQIn F n P md ops C Q fuel listed a → wpAnyIn F n P md ops Q' fuel listed a w
  | 0, _, _, _, hw, h => ⟨h.1, hQ _ _ hw h.2⟩
  | fuel + 1, _, _, _, hw, h => ⟨fun h0 => hQ _ _ hw (h.1 h0), fun i hi => round_op hnd hw (fun a' w' hw' => round_any hnd hQ fuel _ a' w' hw') (h.2 i hi)⟩
end
/-- no operation of a list defers -/
def noDefer (l : List Oper) : Bool := l.all fun o => match o.op with | .defer _ => false | _ => true
theorem noDefer_spec {l : List Oper} (h : noDefer l = true) : ∀ (i : Nat) (o : Oper), l.toArray[i]? = some o → ∀ c, o.op ≠ .defer c := by
  intro i o ho c hc
  have hm : o ∈ l := by
    have : l[i]? = some o := by simpa using ho
    exact List.mem_of_getElem? this
  have := List.all_eq_true.1 h o hm
  rw [hc] at this
  cases this
theorem wp_region_classIn {F : Fence} {n : Nat} {P : Program} (S : World → Prop) {id : Nat} {Q : Exit → Act → World → Prop} {a : Act} {w : World} {l : List Oper} (hm : P.follows .mixedOrders = true) (hB : Region.lexB .any l.toArray = true) (hnd : noDefer l = true) (hS : S w.drew)
    (h : wpQuietIn F n P l.toArray (fun w' => ∃ n : Held S, w' = HeldW n) (fun a' => ∀ w', (∃ n : Held S, w' = HeldW n) → Q .normal a' w') l a) : (Code.region id l.toArray true).wpIn F n P Q a w := by
  simp only [Region.lexB, Bool.and_eq_true] at hB
  refine wpIn_region_any hm (round_any (C := fun w' => ∃ n : Held S, w' = HeldW n) (Q := fun a' => ∀ w', (∃ n : Held S, w' = HeldW n) → Q .normal a' w') (noDefer_spec hnd) (fun _ w' hw' h => h w' hw') _ _ _ _ (held_mk (S := S) w.drew hS) ?_)
  have := wpAnyQIn_lex (F := F) (n := n) (C := fun w' => ∃ n : Held S, w' = HeldW n) (md := .any) hB.1 l 0 (Array.replicate l.toArray.size false) a (by simp) (by simpa using hB.2) h
  simpa using this
@[simp] theorem wide_round_fn (l f : Nat) : (Fence.wide.inRound l).fn f = True := rfl
theorem heldIn_of {P : Program} {S : World → Prop} {f : FuncId} {args : Array Value} {k : Held S} {v : Value} {l n : Nat} (h : Calls P f args (HeldW k) fun e w'' => e = .returned v ∧ ∃ m : Held S, w'' = HeldW m) :
    CallsIn (Fence.wide.inRound l) n P f args (HeldW k) fun e w'' => e = .returned v ∧ ∃ m : Held S, w'' = HeldW m := CallsIn.inRound l (callsIn_wide.2 h)
end Sw
/- ReconAll: what the law keeps, and things compared with themselves. -/
set_option linter.unusedVariables false
set_option linter.unusedSimpArgs false
namespace Go.Proofs.YteofiffbobbdmaaGreatDoor
open Go Go.RowKit
open Sw
set_option maxRecDepth 100000 in
theorem ne_stepS (q ad cd : ByteArray) (v c ak am at' ck cm ct : Int) (W : World) : (binOp .neq 63 (.agg #[.string q, .int .i64 v, .int .i64 c, .int .i64 ak, .int .i64 am, .int .u32 at', .string ad, .int .i64 ck, .int .i64 cm, .int .u32 ct, .string cd]) (.agg #[.string q, .int .i64 v, .int .i64 c, .int .i64 ak, .int .i64 am, .int .u32 at', .string ad, .int .i64 ck, .int .i64 cm, .int .u32 ct, .string cd])).run Tryz.prog W = .ok (.bool false) W := by
  simp [go_sem, Tryz.underlying63, Tryz.underlying51, Tryz.underlying9, Tryz.underlying3, Tryz.underlying49]
set_option maxRecDepth 100000 in
theorem ne_stepR (q ad cd : ByteArray) (v c ak am at' ck cm ct : Int) (W : World) : (binOp .neq 64 (.agg #[.string q, .int .i64 v, .int .i64 c, .int .i64 ak, .int .i64 am, .int .u32 at', .string ad, .int .i64 ck, .int .i64 cm, .int .u32 ct, .string cd]) (.agg #[.string q, .int .i64 v, .int .i64 c, .int .i64 ak, .int .i64 am, .int .u32 at', .string ad, .int .i64 ck, .int .i64 cm, .int .u32 ct, .string cd])).run Tryz.prog W = .ok (.bool false) W := by
  simp [go_sem, Tryz.underlying64, Tryz.underlying51, Tryz.underlying9, Tryz.underlying3, Tryz.underlying49]
theorem info_int30 : Tryz.prog.info? 3 = some ((Tryz.prog.info? 3).getD default) := by kernel_rfl
/-- four numbers are not unlike themselves -/
theorem neq_four30 (a b c d : Int) (W : World) : (Op.equalIn 10000 34 (.agg #[.int .i64 a, .int .i64 b, .int .i64 c, .int .i64 d]) (.agg #[.int .i64 a, .int .i64 b, .int .i64 c, .int .i64 d])).run Tryz.prog W = .ok true W := by
  have h := run_eql_ints (P := Tryz.prog) (k := .i64) (n := 4) (i := _) Tryz.underlying34 info_int30 Tryz.underlying3 (by kernel_rfl) (by kernel_rfl) (fun j => if j = 0 then a else if j = 1 then b else if j = 2 then c else d) #[.int .i64 a, .int .i64 b, .int .i64 c, .int .i64 d] (fun j hj => by
    have : j = 0 ∨ j = 1 ∨ j = 2 ∨ j = 3 := by omega
    rcases this with rfl | rfl | rfl | rfl <;> rfl) W
  rw [run_eql_struct] at h
  generalize (Op.equalIn 10000 34 (.agg #[.int .i64 a, .int .i64 b, .int .i64 c, .int .i64 d]) (.agg #[.int .i64 a, .int .i64 b, .int .i64 c, .int .i64 d])).run Tryz.prog W = r at h
  cases r with
  | ok x w' =>
    simp only [Result.andThen_ok, Result.ok.injEq, Value.bool.injEq] at h ⊢
    exact h
  | _ => cases h
set_option maxRecDepth 100000 in
theorem ne_four (a b c d : Int) (W : World) : (binOp .neq 34 (.agg #[.int .i64 a, .int .i64 b, .int .i64 c, .int .i64 d]) (.agg #[.int .i64 a, .int .i64 b, .int .i64 c, .int .i64 d])).run Tryz.prog W = .ok (.bool false) W := by
  simp [go_sem, Tryz.underlying34, Tryz.underlying3, neq_four30]
/-- the two answers, where they lie -/
def GotR (w4 : World) (n : Nat) (ans : List StR) (g : Nat) (A5 A6 : Option Addr) (c5 c6 : Nat) (W : World) : Prop :=
  Blk W g 58 #[.slice A5 n c5] ∧ W.ownsRow w4.heap.size 64 11 (.slice A5 n c5) n (ans.flatMap eCR) ∧ W.ownsRow w4.heap.size 63 11 (.slice A6 n c6) n (ans.flatMap eCR) ∧ Below w4.heap.size w4 W ∧ w4.heap.size ≤ g
theorem GotR.below {w4 : World} {n : Nat} {ans : List StR} {g : Nat} {A5 A6 : Option Addr} {c5 c6 : Nat} {W W' : World} (h : GotR w4 n ans g A5 A6 c5 c6 W) (hb : Below W.heap.size W W') : GotR w4 n ans g A5 A6 c5 c6 W' :=
  ⟨h.1.below hb h.1.lt, own_kept h.2.1 hb, own_kept h.2.2.1 hb, h.2.2.2.1.trans (hb.mono h.2.2.2.1.size), h.2.2.2.2⟩
/-- a cell of another thing is written -/
theorem GotR.put {w4 : World} {n : Nat} {ans : List StR} {g : Nat} {A5 A6 : Option Addr} {c5 c6 : Nat} {W : World} (h : GotR w4 n ans g A5 A6 c5 c6 W) {k : Nat} {t : TypeId} {cs : Array Value} (hk : Blk W k t cs) (h4 : w4.heap.size ≤ k) (t1 : ¬ 58 = t) (t2 : ¬ 64 = t) (t3 : ¬ 63 = t) (i : Nat) (v : Value) : GotR w4 n ans g A5 A6 c5 c6 (W.setCell ⟨k, i, none⟩ v) := by
  refine ⟨h.1.far (p := ⟨k, i, none⟩) (Blk.other h.1 hk t1) v, h.2.1.kept (grown_put (grown_refl W (some k)) i v) (.inr (own_ne_blk h.2.1 hk t2)), h.2.2.1.kept (grown_put (grown_refl W (some k)) i v) (.inr (own_ne_blk h.2.2.1 hk t3)), h.2.2.2.1.setCell (p := ⟨k, i, none⟩) h4 v, h.2.2.2.2⟩
/-- what lies behind kv words of the range -/
def RgC (gk R gM g b5 n : Nat) (ans : List StR) (A5 : Option Addr) (c5 mo : Nat) (kv : Nat) (W : World) : Prop :=
  Blk W gk 3 #[.int .i64 kv] ∧ Blk W R 4 #[.bool false] ∧ Blk W gM 47 #[.int .u64 mo] ∧ Blk W g 58 #[.slice A5 n c5] ∧ W.ownsRow b5 64 11 (.slice A5 n c5) n (ans.flatMap eCR)
section
variable {gk R gM g b5 n : Nat} {ans : List StR} {A5 : Option Addr} {c5 mo kv : Nat} {W W' : World}
theorem RgC.below (h : RgC gk R gM g b5 n ans A5 c5 mo kv W) (hb : Below W.heap.size W W') : RgC gk R gM g b5 n ans A5 c5 mo kv W' :=
  ⟨h.1.below hb h.1.lt, h.2.1.below hb h.2.1.lt, h.2.2.1.below hb h.2.2.1.lt, h.2.2.2.1.below hb h.2.2.2.1.lt, own_kept h.2.2.2.2 hb⟩
theorem RgC.put (h : RgC gk R gM g b5 n ans A5 c5 mo kv W) (k' : Nat) : RgC gk R gM g b5 n ans A5 c5 mo k' (W.setCell ⟨gk, 0, none⟩ (.int .i64 k')) :=
  ⟨h.1.put 0 _, h.2.1.far (p := ⟨gk, 0, none⟩) (Blk.other h.2.1 h.1 (by decide)) _, h.2.2.1.far (p := ⟨gk, 0, none⟩) (Blk.other h.2.2.1 h.1 (by decide)) _, h.2.2.2.1.far (p := ⟨gk, 0, none⟩) (Blk.other h.2.2.2.1 h.1 (by decide)) _, h.2.2.2.2.kept (grown_put (grown_refl W (some gk)) 0 _) (.inr (own_ne_blk h.2.2.2.2 h.1 (by decide)))⟩
end
theorem RgC.own (gk R gM g b5 n : Nat) (ans : List StR) (A5 : Option Addr) (c5 mo : Nat) {β : Type} (f : β → Nat) : Own (fun (s : β) => RgC gk R gM g b5 n ans A5 c5 mo (f s)) := fun s A B row hs hg hr => ⟨blk_ownF hs.1 hg hr, blk_ownF hs.2.1 hg hr, blk_ownF hs.2.2.1 hg hr, blk_ownF hs.2.2.2.1 hg hr, own_ownF hs.2.2.2.2 hg hr⟩
/-- a store of the counter: all that is of another type is kept -/
theorem keepR_int {B0 : Nat} {W : World} {gk : Nat} {cs : Array Value} (h : Blk W gk 3 cs) (hB : B0 ≤ gk) (v : Value) : KeepR B0 tsR W (W.setCell ⟨gk, 0, none⟩ v) :=
  ⟨(Below.refl B0 W).setCell (p := ⟨gk, 0, none⟩) hB v, fun g' t cs' hg' ht => hg'.far (p := ⟨gk, 0, none⟩) (Blk.other hg' h (fun e => ht (by rw [e]; decide))) v⟩
end Go.Proofs.YteofiffbobbdmaaGreatDoor
/- The document's example of layer 30. -/
set_option linter.unusedVariables false
set_option linter.unusedSimpArgs false
namespace Go.Proofs.YteofiffbobbdmaaGreatDoor
open Go Go.RowKit
open Sw
set_option maxRecDepth 100000 in
set_option maxHeartbeats 4000000 in
theorem recon_lives (w : World) : Calls Tryz.prog 21 #[] w fun e w' => e = .returned (.bool true) ∧ Below w.heap.size w w' := by
  have h1 := Lib.hid (fun W => decide_any W ⟨2, 0, 0, 0, 0⟩ true ⟨2, 0, 0, ⟨#[]⟩⟩ ⟨2, 7, 0, ⟨#[]⟩⟩ (by show 0 ≤ maxLen; omega) (by show 0 ≤ maxLen; omega))
  have h2 := Lib.hid (fun W => class_any W ⟨2, 0, 0, ⟨#[]⟩⟩ ⟨0, 0, 0, ⟨#[]⟩⟩)
  rw [show decideN ⟨2, 0, 0, 0, 0⟩ true ⟨2, 0, 0, ⟨#[]⟩⟩ ⟨2, 7, 0, ⟨#[]⟩⟩ = (1, 0) by decide] at h1
  rw [show classN ⟨2, 0, 0, ⟨#[]⟩⟩ ⟨0, 0, 0, ⟨#[]⟩⟩ = 2 by rfl] at h2
  unfold Pr.c Nd.c at h1
  unfold Nd.c at h2
  go_enter Tryz.func21, Tryz.ntmps21
  go_wp2_with fail
  refine (h1.out _).mono ?_
  rintro e w1 ⟨rfl, hb1⟩
  have hA := (blk_fst w #[.int .i64 2, .int .i64 0, .int .u32 0, .string ⟨#[]⟩] 51 (.cells #[.int .i64 2, .int .i64 7, .int .u32 0, .string ⟨#[]⟩] 51)).below hb1 (by simp; omega)
  have hbw : Below w.heap.size w w1 := (((Below.refl _ _).alloc (Nat.le_refl _) _).alloc (by simp) _).trans (hb1.mono (by simp; omega))
  have a0 := hA.cell 0
  have a1 := hA.cell 1
  have a2 := hA.cell 2
  have a3 := hA.cell 3
  simp at a0 a1 a2 a3
  go_wp2_with fail
  refine (h2.out _).mono ?_
  rintro e w2 ⟨rfl, hb2⟩
  go_wp2_with fail
  go_ret
  exact ⟨rfl, hbw.trans (hb2.mono hbw.size)⟩
end Go.Proofs.YteofiffbobbdmaaGreatDoor
/- Law 29's Light, of any Base and items. -/
set_option linter.unusedVariables false
set_option linter.unusedSimpArgs false
namespace Go.Proofs.YteofiffbobbdmaaGreatDoor
open Go Go.RowKit
open Sw
/-- what law 29's Light answers -/
def Light29 (l1 l2 : List MkE) (l : List NE) (e : Ending) : Prop := ∃ R : Bool, e = .returned (.bool R) ∧ (R = true → (l1.length ≤ 30 ∧ l2.length ≤ 30 ∧ ∀ m ∈ l1 ++ l2, m.1.size ≤ 150) ∧ l.length ≤ 30 ∧ (∀ e ∈ l, SmallE e) ∧ putsT [] l = (0, l))
theorem Light29.no {l1 l2 : List MkE} {l : List NE} : Light29 l1 l2 l (.returned (.bool false)) := ⟨false, rfl, fun h => (by cases h)⟩
set_option maxRecDepth 100000 in
set_option maxHeartbeats 4000000 in
theorem light29_any (w : World) (u1 u2 : Value) (l1 l2 : List MkE) (h1 : SlV w 6 eCM u1 l1) (h2 : SlV w 6 eCM u2 l2) (hin1 : ∀ m ∈ l1, 0 ≤ m.2.time ∧ m.2.time < 4294967296) (hin2 : ∀ m ∈ l2, 0 ≤ m.2.time ∧ m.2.time < 4294967296)
    (v : Value) (l : List NE) (h : SlV w 5 eCSN v l) (hin : ∀ x ∈ l, x.1.size ≤ maxLen ∧ NdIn x.2) :
    Calls Tryz.prog 7 #[.agg #[u1, u2], v] w fun e w' => Light29 l1 l2 l e ∧ Below w.heap.size w w' := by
  have hb0 : Below w.heap.size w (w.alloc (.cells #[u1, u2] 24)) := (Below.refl _ w).alloc (Nat.le_refl _) _
  have hB0 := Blk.new w 24 #[u1, u2]
  have HL := Lib.hid (light26_any _ u1 u2 l1 l2 (h1.below hb0 (Nat.le_refl _)) (h2.below hb0 (Nat.le_refl _)))
  have HM := Lib.hid (And.intro (And.intro h1 h2) (And.intro hin1 hin2)); clear hin1 hin2
  have H0 := Lib.hid (And.intro hb0 (And.intro hB0 (And.intro h hin)))
  obtain ⟨A, c, rfl, _, _, _⟩ := h
  obtain ⟨A1, c1, rfl, _, _, _⟩ := h1
  obtain ⟨A2, c2, rfl, _, _, _⟩ := h2
  obtain ⟨k1, hk1⟩ : ∃ n, l1.length = n := ⟨_, rfl⟩
  obtain ⟨k2, hk2⟩ : ∃ n, l2.length = n := ⟨_, rfl⟩
  rw [hk1, hk2] at HL H0 HM hB0 hb0 ⊢
  clear hk1 hk2 hb0 hB0 hin
  obtain ⟨n, hn⟩ : ∃ n, l.length = n := ⟨_, rfl⟩
  rw [hn] at H0
  rw [hn]
  have HN := Lib.hid hn; clear hn
  go_enter Tryz.func7, Tryz.ntmps7
  go_wp2_with fail
  refine HL.out.mono ?_
  rintro e w1 ⟨⟨R, rfl, hR1⟩, hb1⟩
  have hB1 := H0.out.2.1.below hb1 H0.out.2.1.lt
  have x0 := hB1.cell 0
  have x1 := hB1.cell 1
  simp at x0 x1
  have H1 := Lib.hid (And.intro (H0.out.1.trans (hb1.mono H0.out.1.size)) hR1); clear hb1 hB1 hR1
  cases R with
  | false =>
    go_wp2_with fail
    go_ret
    exact ⟨.no, H1.out.1⟩
  | true =>
    have hl := H1.out.2 rfl
    have HR := Lib.hid (right26_any w1 (.slice A1 k1 c1) (.slice A2 k2 c2) l1 l2 (HM.out.1.1.below H1.out.1 (Nat.le_refl _)) (HM.out.1.2.below H1.out.1 (Nat.le_refl _)) (by have := hl.1; omega) (by have := hl.2.1; omega) (fun m hm => ⟨by have := hl.2.2 m (List.mem_append_left _ hm); omega, HM.out.2.1 m hm⟩) (fun m hm => ⟨by have := hl.2.2 m (List.mem_append_right _ hm); omega, HM.out.2.2 m hm⟩))
    have HLL := Lib.hid hl; clear hl
    go_wp2_with fail
    refine HR.out.mono ?_
    rintro e w2 ⟨⟨R, rfl⟩, hb2⟩
    have H2 := Lib.hid (H1.out.1.trans (hb2.mono H1.out.1.size)); clear hb2 x0 x1 HR
    cases R with
    | false =>
      go_wp2_with fail
      go_ret
      exact ⟨.no, H2.out⟩
    | true =>
      have HLI := Lib.hid (light16_any w2 (.slice A n c) l (H0.out.2.2.1.below H2.out (Nat.le_refl _)) (fun e he => ⟨(H0.out.2.2.2 e he).1, (H0.out.2.2.2 e he).2.size⟩))
      go_wp2_with fail
      refine HLI.out.mono ?_
      rintro e w3 ⟨R, rfl, hR, hb3⟩
      have H3 := Lib.hid (And.intro (H2.out.trans (hb3.mono H2.out.size)) hR); clear hb3 hR HLI
      cases R with
      | false =>
        go_wp2_with fail
        go_ret
        exact ⟨.no, H3.out.1⟩
      | true =>
        obtain ⟨hl30, hsm⟩ := H3.out.2 rfl
        have HRR := Lib.hid (ref16Right_any w3 (.slice A n c) l (H0.out.2.2.1.below H3.out.1 (Nat.le_refl _)) (by omega) (fun x hx => ⟨by have := (hsm x hx).1; omega, (H0.out.2.2.2 x hx).2⟩))
        have HSM := Lib.hid (And.intro hl30 hsm); clear hl30 hsm
        go_wp2_with fail
        refine HRR.out.mono ?_
        rintro e w4 ⟨R, rfl, hR, hb4⟩
        have H4 := Lib.hid (And.intro (H3.out.1.trans (hb4.mono H3.out.1.size)) hR); clear hb4 hR HRR
        go_wp2_with fail
        go_ret
        exact ⟨⟨R, rfl, fun h => ⟨HLL.out, HN.out ▸ HSM.out.1, HSM.out.2, H4.out.2.1 h⟩⟩, H4.out.1⟩
end Go.Proofs.YteofiffbobbdmaaGreatDoor
