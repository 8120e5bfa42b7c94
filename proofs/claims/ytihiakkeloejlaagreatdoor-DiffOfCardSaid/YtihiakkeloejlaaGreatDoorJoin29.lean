/- Several texts, joined for the limit of sixty files; each one opens with its own comment. -/
import Derived.Test.YtihiakkeloejlaaGreatDoorJoin5
import Derived.Sort.BigQuietIn
import Derived.RangeFuncCalls
import Derived.Test.YtihiakkeloejlaaGreatDoorJoin28
import Derived.Test.YtihiakkeloejlaaGreatDoorJoin26
/- XHeld's law inside a fence, in a round too: a region that draws its order, whose calls may make memory: one walk in the text's order, in a class of worlds. Over any program. -/
set_option linter.unusedVariables false
namespace Sw
open Go Go.RowKit
section
variable {F : Fence} {n : Nat} {P : Program} {ops : Array Oper} {md : Region.Mode} {C : World → Prop}
theorem round_quiet {o : Oper} {a : Act} {K : Act → Prop} {K' : Act → World → Prop} {Q' : Exit → Act → World → Prop} {w : World} (hnd : ∀ c, o.op ≠ .defer c) (hw : C w) (h : ∀ a w', C w' → K a → K' a w')
    (ha : o.askedIn F P a C) (hh : o.quietIn F n P a C K) : o.wpIn F n P a w K' Q' := by
  obtain ⟨v, h1, h2⟩ := hh
  have h3 := h1 w hw
  unfold Oper.quietAtIn at h3
  unfold Oper.wpIn
  refine ⟨ha w hw, ?_⟩
  rw [Oper.semAt_eq _ _ _ hnd]
  generalize (execOp a.eval o).run P w = r at *
  cases r with
  | halt x w' => exact h3.elim
  | ok x w' =>
    cases x with
    | value u => obtain ⟨rfl, rfl⟩ := h3; exact h _ _ hw h2
    | skip => obtain ⟨rfl, rfl⟩ := h3; exact h _ _ hw h2
    | enter f args =>
      obtain ⟨rfl, hd, hc⟩ := h3
      exact ⟨hd, hc.mono fun e w'' hr => by obtain ⟨rfl, hw''⟩ := hr; exact h _ _ hw'' h2⟩
    | _ => exact h3.elim
theorem round_op {i : Nat} {a : Act} {K : Act → Prop} {K' : Act → World → Prop} {Q' : Exit → Act → World → Prop} {w : World} (hnd : ∀ (i : Nat) (o : Oper), ops[i]? = some o → ∀ c, o.op ≠ .defer c) (hC : C w) (h : ∀ a w', C w' → K a → K' a w')
    (hh : qOpIn F n P ops C i K a) : wpOpIn F n P ops Q' i K' a w := by
  unfold qOpIn at hh
  unfold wpOpIn
  split
  · rename_i ho; simp only [ho] at hh; exact h _ _ hC hh
  · rename_i o ho
    simp only [ho] at hh
    obtain ⟨ha, hh⟩ := hh
    split
    · rename_i hw; simp only [hw, if_true] at hh; exact round_quiet (hnd i o ho) hC h ha hh
    · rename_i hw; simp only [hw] at hh; exact ⟨ha w hC, h _ _ hC hh⟩
theorem round_any {Q : Act → Prop} {Q' : Exit → Act → World → Prop} (hnd : ∀ (i : Nat) (o : Oper), ops[i]? = some o → ∀ c, o.op ≠ .defer c) (hQ : ∀ a w, C w → Q a → Q' .normal a w) : ∀ (fuel : Nat) (listed : Array Bool) (a : Act) (w : World), C w →
    wpAnyQIn F n P md ops C Q fuel listed a → wpAnyIn F n P md ops Q' fuel listed a w
  | 0, _, _, _, hw, h => ⟨h.1, hQ _ _ hw h.2⟩
  | fuel + 1, _, _, _, hw, h => ⟨fun h0 => hQ _ _ hw (h.1 h0), fun i hi => round_op hnd hw (fun a' w' hw' => round_any hnd hQ fuel _ a' w' hw') (h.2 i hi)⟩
end
/-- no operation of a list defers -/
def noDefer (l : List Oper) : Bool := l.all fun o => match o.op with | .defer _ => false | _ => true
theorem noDefer_spec {l : List Oper} (h : noDefer l = true) : ∀ (i : Nat) (o : Oper), l.toArray[i]? = some o → ∀ c, o.op ≠ .defer c := by
  intro i o ho c hc
  have hm : o ∈ l := by
    have : l[i]? = some o := by simpa using ho
    exact List.mem_of_getElem? this
  have := List.all_eq_true.1 h o hm
  rw [hc] at this
  cases this
theorem wp_region_classIn {F : Fence} {n : Nat} {P : Program} (S : World → Prop) {id : Nat} {Q : Exit → Act → World → Prop} {a : Act} {w : World} {l : List Oper} (hm : P.follows .mixedOrders = true) (hB : Region.lexB .any l.toArray = true) (hnd : noDefer l = true) (hS : S w.drew)
    (h : wpQuietIn F n P l.toArray (fun w' => ∃ n : Held S, w' = HeldW n) (fun a' => ∀ w', (∃ n : Held S, w' = HeldW n) → Q .normal a' w') l a) : (Code.region id l.toArray true).wpIn F n P Q a w := by
  simp only [Region.lexB, Bool.and_eq_true] at hB
  refine wpIn_region_any hm (round_any (C := fun w' => ∃ n : Held S, w' = HeldW n) (Q := fun a' => ∀ w', (∃ n : Held S, w' = HeldW n) → Q .normal a' w') (noDefer_spec hnd) (fun _ w' hw' h => h w' hw') _ _ _ _ (held_mk (S := S) w.drew hS) ?_)
  have := wpAnyQIn_lex (F := F) (n := n) (C := fun w' => ∃ n : Held S, w' = HeldW n) (md := .any) hB.1 l 0 (Array.replicate l.toArray.size false) a (by simp) (by simpa using hB.2) h
  simpa using this
@[simp] theorem wide_round_fn (l f : Nat) : (Fence.wide.inRound l).fn f = True := rfl
theorem heldIn_of {P : Program} {S : World → Prop} {f : FuncId} {args : Array Value} {k : Held S} {v : Value} {l n : Nat} (h : Calls P f args (HeldW k) fun e w'' => e = .returned v ∧ ∃ m : Held S, w'' = HeldW m) :
    CallsIn (Fence.wide.inRound l) n P f args (HeldW k) fun e w'' => e = .returned v ∧ ∃ m : Held S, w'' = HeldW m := CallsIn.inRound l (callsIn_wide.2 h)
end Sw
/- A region that draws its order, inside a round of the wide fence: the plain laws (Chain, ChainD, ChainT) serve there too, where nothing is deferred. Over any program. -/
set_option linter.unusedVariables false
set_option linter.unusedSimpArgs false
namespace Sw
open Go
section
variable {l n : Nat} {P : Program} {ops : Array Oper} {md : Region.Mode} {Q : Exit → Act → World → Prop}
theorem opIn_of_op {o : Oper} {a : Act} {w : World} {K : Act → World → Prop} (hnd : ∀ c, o.op ≠ .defer c) (h : o.wp P a w K (OnlyN Q)) : o.wpIn (Fence.wide.inRound l) n P a w K Q := by
  unfold Oper.wpIn
  refine ⟨fun _ _ => trivial, ?_⟩
  rw [Oper.semAt_eq _ _ _ hnd]
  unfold Oper.wp at h
  generalize (execOp a.eval o).run P w = r at *
  cases r with
  | halt x w' => cases x <;> simp only [Oper.upon] at h <;> first | exact h.elim | exact (h : False).elim
  | ok x w' =>
    cases x with
    | value u => exact h
    | skip => exact h
    | defer d => exact h
    | enter f args =>
      refine ⟨fun hd => by simp [Fence.wide] at hd, ((callsIn_wide.2 h).inRound l).mono fun e w'' he => ?_⟩
      cases e with
      | returned v => exact he
      | panicked c => exact (he : False).elim
      | outgrown => exact absurd he OnlyN.out
    | row row args =>
      refine ⟨fun hd => by simp [Fence.wide] at hd, fun c cs _ => ?_⟩
      obtain ⟨v, w2, r, s⟩ := h c cs
      exact ⟨v, w2, r, stepsIn_wide.2 s⟩
    | _ => exact (h : False).elim
theorem anyIn_of_any (hnd : ∀ (i : Nat) (o : Oper), ops[i]? = some o → ∀ c, o.op ≠ .defer c) : ∀ (f : Nat) (listed : Array Bool) (a : Act) (w : World), wpAny P md ops (OnlyN Q) f listed a w → wpAnyIn (Fence.wide.inRound l) n P md ops Q f listed a w
  | 0, _, _, _, h => h
  | f + 1, listed, a, w, h => ⟨h.1, fun i hi => by
      have h2 := h.2 i hi
      unfold wpOp at h2
      unfold wpOpIn
      cases ho : ops[i]? with
      | none => rw [ho] at h2; exact anyIn_of_any hnd f _ a w h2
      | some o =>
        rw [ho] at h2
        simp only at h2 ⊢
        split
        · rename_i hw
          rw [if_pos hw] at h2
          rcases h2 with h2 | h2
          · exact opIn_of_op (hnd i o ho) (Oper.wp_mono (fun a w => anyIn_of_any hnd f _ a w) h2)
          · exact absurd h2.2 OnlyN.out
        · rename_i hw
          rw [if_neg hw] at h2
          exact ⟨fun _ _ => trivial, anyIn_of_any hnd f _ _ w h2⟩⟩
end
theorem wpIn_region_mixT {P : Program} {lr n : Nat} (C : World → Prop) (perm : PermT) {id : Nat} {Q : Exit → Act → World → Prop} {a : Act} {w : World} {l : List Oper} (hm : P.follows .mixedOrders = true)
    (hB : (noDefer l && Region.noSelect l.toArray && decide (perm.depth = l.length) && permBT .any l.toArray perm (Array.replicate l.length false)) = true)
    (h : mixT P l.toArray C Q (pickT l.toArray perm) a w.drew) : (Code.region id l.toArray true).wpIn (Fence.wide.inRound lr) n P Q a w := by
  simp only [Bool.and_eq_true, decide_eq_true_eq] at hB
  obtain ⟨⟨⟨hnd, hs⟩, hl⟩, hp⟩ := hB
  refine wpIn_region_any hm (anyIn_of_any (noDefer_spec hnd) _ _ _ _ (wpAny_of_anyC (C := C) _ _ _ _ ?_))
  have := anyC_of_mixT (C := C) (Q := Q) hs perm (Array.replicate l.length false) a w.drew hp h
  rw [hl] at this
  simpa using this
theorem wpIn_region_mixD {P : Program} {lr n : Nat} (C : World → Prop) (perm : List (Nat × Bool)) {id : Nat} {Q : Exit → Act → World → Prop} {a : Act} {w : World} {l : List Oper} (hm : P.follows .mixedOrders = true)
    (hB : (noDefer l && Region.noSelect l.toArray && decide (perm.length = l.length) && permD .any l.toArray perm (Array.replicate l.length false)) = true)
    (h : mixD P l.toArray C Q (pickP l.toArray perm) a w.drew) : (Code.region id l.toArray true).wpIn (Fence.wide.inRound lr) n P Q a w := by
  simp only [Bool.and_eq_true, decide_eq_true_eq] at hB
  obtain ⟨⟨⟨hnd, hs⟩, hl⟩, hp⟩ := hB
  refine wpIn_region_any hm (anyIn_of_any (noDefer_spec hnd) _ _ _ _ (wpAny_of_anyD (C := C) _ _ _ _ ?_))
  have := anyD_of_mix (C := C) (Q := Q) hs perm (Array.replicate l.length false) a w.drew (fun k ok _ hl => by
    rw [Array.getD_eq_getD_getElem?] at hl
    rcases Nat.lt_or_ge k l.length with hk | hk
    · simp [hk] at hl
    · rw [Array.getElem?_eq_none (by simpa using hk)] at hl
      cases hl) (by simp) hp h
  rw [hl] at this
  simpa using this
end Sw
/- diff.Moves: what holds between its rounds. -/
set_option linter.unusedVariables false
set_option linter.unusedSimpArgs false
namespace Go.Proofs.YtihiakkeloejlaaGreatDoor
open Go Go.RowKit
open Sw
theorem keepOkQ : KeepOkD tsQ := by unfold KeepOkD tsQ; decide
def tsG : List TypeId := [9, 32, 40]
theorem keepOkG : KeepOkD tsG := by unfold KeepOkD tsG; decide
theorem TreeAt.keptD {B0 : Nat} {ts : List TypeId} {W W' : World} {bt bm : Nat} {X : List NE} (h : TreeAt W bt bm X) (hk : KeepR B0 ts W W') (h1 : ¬ 93 ∈ ts) (h2 : ¬ 116 ∈ ts) (h3 : ¬ 101 ∈ ts) : TreeAt W' bt bm X := by
  refine ⟨hk.row _ _ _ h.box h1, ?_⟩
  obtain ⟨v, hb, ho⟩ := h.map.row
  exact ⟨⟨v, hk.row _ _ _ hb h2, own_keptR ho hk h3⟩, h.map.up, h.map.ok⟩
theorem TreeAt.ownD {W W' : World} {row : Option Nat} {bt bm : Nat} {X : List NE} (h : TreeAt W bt bm X) (hg : W.grownBy W' row) (hr : ∀ r, row = some r → ∃ o : Obj, W.heap[r]? = some o ∧ o.isCells = false) : TreeAt W' bt bm X :=
  ⟨blk_ownF h.box hg hr, h.map.ownFD hg hr⟩
/-- behind some changes of the first range -/
structure G1 (xs ys : List NE) (B0 mb mc rc g2 g3 bt bm bt2 bm2 : Nat) (w0 : World) (pre : List ChE) (V : World) : Prop where
  q : ∃ f, GoneF xs B0 mb pre f V
  mc : Blk V mc 80 #[.map (some mb)]
  rc : Blk V rc 32 #[.slice none 0 0]
  p2 : Blk V g2 26 #[.pointer (some ⟨bt, 0, none⟩)]
  p3 : Blk V g3 26 #[.pointer (some ⟨bt2, 0, none⟩)]
  t : TreeAt V bt bm xs
  t2 : TreeAt V bt2 bm2 ys
  low : Below B0 w0 V
section
variable {xs ys : List NE} {B0 mb mc rc g2 g3 bt bm bt2 bm2 : Nat} {w0 : World} {pre : List ChE} {V V' : World}
theorem G1.below (h : G1 xs ys B0 mb mc rc g2 g3 bt bm bt2 bm2 w0 pre V) (hB : B0 ≤ V.heap.size) (hb : Below V.heap.size V V') : G1 xs ys B0 mb mc rc g2 g3 bt bm bt2 bm2 w0 pre V' := by
  obtain ⟨f, hf⟩ := h.q
  exact ⟨⟨f, hf.below hb⟩, h.mc.below hb h.mc.lt, h.rc.below hb h.rc.lt, h.p2.below hb h.p2.lt, h.p3.below hb h.p3.lt, h.t.below hb, h.t2.below hb, h.low.trans (hb.mono hB)⟩
theorem G1.own {B : Nat} (hmb : mb < B) (hB0 : B0 ≤ mb) : OwnM (fun _ => False) B (G1 xs ys B0 mb mc rc g2 g3 bt bm bt2 bm2 w0) := fun s A C row h hg hr => by
  have hr1 : ∀ r, row = some r → B ≤ r ∧ ∃ o : Obj, A.heap[r]? = some o ∧ o.isCells = false := fun r e => (hr r e).resolve_left id
  have hr' : ∀ r, row = some r → ∃ o : Obj, A.heap[r]? = some o ∧ o.isCells = false := fun r e => (hr1 r e).2
  obtain ⟨f, hf⟩ := h.q
  have hs : B0 ≤ A.heap.size := Nat.le_trans hB0 (Nat.le_of_lt hf.map.lt)
  exact ⟨⟨f, hf.kept hg (fun r e => ⟨by have := (hr1 r e).1; omega, (hr1 r e).2⟩)⟩, blk_ownF h.mc hg hr', blk_ownF h.rc hg hr', blk_ownF h.p2 hg hr', blk_ownF h.p3 hg hr', h.t.ownD hg hr', h.t2.ownD hg hr',
    h.low.trans ((Below.refl B0 A).grown hg hs (fun r e => by have := (hr1 r e).1; omega))⟩
/-- a round that keeps the queues -/
theorem G1.skip (h : G1 xs ys B0 mb mc rc g2 g3 bt bm bt2 bm2 w0 pre V) {B : Nat} (hB : B0 ≤ V.heap.size) (hb : Below V.heap.size V V') {c : ChE} (hc : ¬ (c.1 = 2 ∧ fileN (getT xs c.2) = true)) :
    KeepsFrom B V V' ∧ KeepR B0 tsQ V V' ∧ G1 xs ys B0 mb mc rc g2 g3 bt bm bt2 bm2 w0 (pre ++ [c]) V' := by
  have h2 := h.below hB hb
  obtain ⟨f, hf⟩ := h2.q
  exact ⟨(keeps_belowF hb).from _, KeepR.below hb hB, ⟨⟨f, hf.skip hc⟩, h2.mc, h2.rc, h2.p2, h2.p3, h2.t, h2.t2, h2.low⟩⟩
/-- a round in which a queue grew -/
theorem G1.add (h : G1 xs ys B0 mb mc rc g2 g3 bt bm bt2 bm2 w0 pre V) {B : Nat} (hB : mb < B) {V1 V3 : World} (hb : Below V.heap.size V V1) (hB0 : B0 ≤ V.heap.size) {c : ChE} {f : Pr → Option Value} (hf : GoneF xs B0 mb (pre ++ [c]) f V3) (hk : KeepR B0 tsQ V1 V3) (hn : ∀ (j : Nat) (o : Obj), j ≠ mb → V1.heap[j]? = some o → o.isCells = false → V3.heap[j]? = some o) (hsz : V1.heap.size ≤ V3.heap.size) :
    KeepsFrom B V V3 ∧ KeepR B0 tsQ V V3 ∧ G1 xs ys B0 mb mc rc g2 g3 bt bm bt2 bm2 w0 (pre ++ [c]) V3 := by
  have h1 := h.below hB0 hb
  have hkv := (KeepR.below (ts := tsQ) hb hB0).trans hk
  refine ⟨((keeps_belowF hb).from B).trans ⟨hsz, fun k o hB' ho hc => hn k o (by omega) ho hc⟩, hkv, ⟨⟨f, hf⟩, hk.row _ _ _ h1.mc (by decide), hk.row _ _ _ h1.rc (by decide), hk.row _ _ _ h1.p2 (by decide), hk.row _ _ _ h1.p3 (by decide), h1.t.keptD hk (by decide) (by decide) (by decide), h1.t2.keptD hk (by decide) (by decide) (by decide), h1.low.trans hk.low⟩⟩
end
/-- a queue that is read -/
def QS (V : World) : Option Value → List ByteArray → Prop
  | none, l => l = []
  | some u, l => Lies V 9 1 (fun p => [Value.string p]) u l
theorem flatS : ∀ l : List ByteArray, l.flatMap (fun p => [Value.string p]) = l.map Value.string
  | [] => rfl
  | a :: l => by rw [List.flatMap_cons, flatS l]; rfl
theorem QV.qs {B0 : Nat} {V : World} {o : Option Value} {l : List ByteArray} (h : QV B0 V o l) : QS V o l := by
  cases o with
  | none => exact h
  | some u =>
    have h' : V.ownsRow B0 9 1 u l.length (l.map Value.string) := h
    rw [← flatS] at h'
    exact Lies.of_own h' (fun _ => rfl) (by decide)
theorem QS.kept {V V' : World} {o : Option Value} {l : List ByteArray} (h : QS V o l) (hk : ∀ g cur, Blk V g 9 cur → V'.heap[g]? = V.heap[g]?) : QS V' o l := by
  cases o with
  | none => exact h
  | some u => exact Lies.kept h (fun g cur _ hB => hk g cur hB)
theorem QS.getD {V : World} {o : Option Value} {l : List ByteArray} (h : QS V o l) : Lies V 9 1 (fun p => [Value.string p]) (o.getD (.slice none 0 0)) l := by
  cases o with
  | none => have h' : l = [] := h; subst h'; exact Lies.nil _ _ _ _
  | some u => exact h
def OwnC (V : World) (B0 : Nat) (o : Value) (l : List OfE) : Prop := V.ownsRow B0 40 3 o l.length (l.flatMap eCC)
def mvO (M : List (ByteArray × ByteArray)) : List OfE := M.map fun m => ((4 : Int), m.1, m.2)
/-- behind some changes of the second range -/
structure G2 (xs ys : List NE) (E : List ChE) (B0 mb mc rc g3 bt2 bm2 D : Nat) (w0 : World) (pre : List ChE) (V : World) : Prop where
  q : ∃ f, MapV V Tryz.prog 78 litP okP mb (E.length + pre.length) f ∧ ∀ k, okP k → QS V (f k) ((pre.foldl (mStep ys) (goneQ xs E, [])).1 k)
  mc : Blk V mc 80 #[.map (some mb)]
  rc : ∃ o, Blk V rc 32 #[o] ∧ OwnC V B0 o (mvO (pre.foldl (mStep ys) (goneQ xs E, [])).2)
  p3 : Blk V g3 26 #[.pointer (some ⟨bt2, 0, none⟩)]
  t2 : TreeAt V bt2 bm2 ys
  dfr : V.heap[D]? = some (.deferred (some []))
  low : Below B0 w0 V
section
variable {xs ys : List NE} {E : List ChE} {B0 mb mc rc g3 bt2 bm2 D : Nat} {w0 : World} {pre : List ChE} {V V' : World}
theorem G2.below (h : G2 xs ys E B0 mb mc rc g3 bt2 bm2 D w0 pre V) (hB : B0 ≤ V.heap.size) (hb : Below V.heap.size V V') : G2 xs ys E B0 mb mc rc g3 bt2 bm2 D w0 pre V' := by
  obtain ⟨f, hf, hq⟩ := h.q
  obtain ⟨o, hrc, ho⟩ := h.rc
  exact ⟨⟨f, hf.below hb hf.lt, fun k hk => (hq k hk).kept (fun g cur hB => hb.block g hB.lt)⟩, h.mc.below hb h.mc.lt, ⟨o, hrc.below hb hrc.lt, own_kept ho hb⟩, h.p3.below hb h.p3.lt, h.t2.below hb, (hb.block D (Array.getElem?_eq_some_iff.1 h.dfr).1).trans h.dfr, h.low.trans (hb.mono hB)⟩
theorem G2.own {B : Nat} (hmb : mb < B) (hB0 : B0 ≤ mb) (hD : D < B) : OwnM (fun _ => False) B (G2 xs ys E B0 mb mc rc g3 bt2 bm2 D w0) := fun s A C row h hg hr => by
  have hr1 : ∀ r, row = some r → B ≤ r ∧ ∃ o : Obj, A.heap[r]? = some o ∧ o.isCells = false := fun r e => (hr r e).resolve_left id
  have hr' : ∀ r, row = some r → ∃ o : Obj, A.heap[r]? = some o ∧ o.isCells = false := fun r e => (hr1 r e).2
  obtain ⟨f, hf, hq⟩ := h.q
  obtain ⟨o, hrc, ho⟩ := h.rc
  have hs : B0 ≤ A.heap.size := Nat.le_trans hB0 (Nat.le_of_lt hf.lt)
  exact ⟨⟨f, hf.kept hg (fun e => by have := (hr1 mb e.symm).1; omega), fun k hk => (hq k hk).kept (fun g cur hB => by
      have h2 := blk_ownF hB hg hr'
      unfold Blk at h2 hB
      rw [h2, hB])⟩, blk_ownF h.mc hg hr', ⟨o, blk_ownF hrc hg hr', own_ownF ho hg hr'⟩, blk_ownF h.p3 hg hr', h.t2.ownD hg hr',
    (hg.block D (Array.getElem?_eq_some_iff.1 h.dfr).1 (fun e => by have := (hr1 D e.symm).1; omega)).trans h.dfr,
    h.low.trans ((Below.refl B0 A).grown hg hs (fun r e => by have := (hr1 r e).1; omega))⟩
/-- a round in which nothing moves -/
theorem G2.skip (h : G2 xs ys E B0 mb mc rc g3 bt2 bm2 D w0 pre V) {B : Nat} (hB : B0 ≤ V.heap.size) (hb : Below V.heap.size V V') {c : ChE} (hc : mStep ys (pre.foldl (mStep ys) (goneQ xs E, [])) c = pre.foldl (mStep ys) (goneQ xs E, [])) :
    KeepsFrom B V V' ∧ KeepR B0 tsG V V' ∧ G2 xs ys E B0 mb mc rc g3 bt2 bm2 D w0 (pre ++ [c]) V' := by
  have h2 := h.below hB hb
  obtain ⟨f, hf, hq⟩ := h2.q
  have he : (pre ++ [c]).foldl (mStep ys) (goneQ xs E, []) = pre.foldl (mStep ys) (goneQ xs E, []) := by rw [List.foldl_append]; exact hc
  exact ⟨(keeps_belowF hb).from _, KeepR.below hb hB, ⟨⟨f, hf.mono (by simp), fun k hk => by rw [he]; exact hq k hk⟩, h2.mc, by rw [he]; exact h2.rc, h2.p3, h2.t2, h2.dfr, h2.low⟩⟩
/-- a round in which a file moves -/
theorem G2.add (h : G2 xs ys E B0 mb mc rc g3 bt2 bm2 D w0 pre V) {B : Nat} (hmB : mb < B) (hDm : D ≠ mb) {V1 V2 V3 : World} (hb : Below V.heap.size V V1) (hB0 : B0 ≤ mb) {c : ChE} {k : Pr} (hk : okP k) {r : ByteArray} {t : List ByteArray} {f : Pr → Option Value} {u2 o2 : Value}
    (hmf : MapV V1 Tryz.prog 78 litP okP mb (E.length + pre.length) f) (hqf : ∀ k, okP k → QS V1 (f k) ((pre.foldl (mStep ys) (goneQ xs E, [])).1 k))
    (hA : AppBody B0 rc 32 40 3 (mvO (pre.foldl (mStep ys) (goneQ xs E, [])).2 ++ [((4 : Int), c.2, r)]).length o2 ((mvO (pre.foldl (mStep ys) (goneQ xs E, [])).2 ++ [((4 : Int), c.2, r)]).flatMap eCC) V1 V2)
    (hm : MapV V3 Tryz.prog 78 litP okP mb (E.length + pre.length + 1) (updV f k u2)) (hg3 : V2.grownBy V3 (some mb)) (hu2 : Lies V2 9 1 (fun p => [Value.string p]) u2 t)
    (hs : mStep ys (pre.foldl (mStep ys) (goneQ xs E, [])) c = (fun k' => if k' = k then t else (pre.foldl (mStep ys) (goneQ xs E, [])).1 k', (pre.foldl (mStep ys) (goneQ xs E, [])).2 ++ [(c.2, r)])) :
    KeepsFrom B V V3 ∧ KeepR B0 tsG V V3 ∧ G2 xs ys E B0 mb mc rc g3 bt2 bm2 D w0 (pre ++ [c]) V3 := by
  have hmb : mb < V.heap.size := by obtain ⟨f, hf, _⟩ := h.q; exact hf.lt
  have hBV : B0 ≤ V.heap.size := by omega
  have h1 := h.below hBV hb
  have hm2 : ∃ es cl, V2.heap[mb]? = some (.map es cl) := by
    obtain ⟨es, cl, h0⟩ := hmf.obj
    exact ⟨es, cl, hA.keeps.same _ _ h0 rfl⟩
  have hne : ∀ g t cs, Blk V2 g t cs → ¬ g = mb := fun g t cs hB e => by
    obtain ⟨es, cl, h0⟩ := hm2
    subst e
    unfold Blk at hB
    rw [h0] at hB
    cases hB
  have up3 : ∀ g t cs, Blk V2 g t cs → Blk V3 g t cs := fun g t cs hB => hB.grown hg3 (fun e => hne g t cs hB (by simpa using e))
  have hV2 : B0 ≤ V2.heap.size := by have := hA.below.size; have := hb.size; omega
  have hlo23 : Below B0 V2 V3 := (Below.refl B0 V2).grown hg3 hV2 (fun j hj => by cases hj; exact hB0)
  have row : ∀ g t cs, Blk V1 g t cs → ¬ t ∈ tsG → Blk V3 g t cs := fun g t cs hB ht => by
    refine up3 _ _ _ (hA.far g t cs hB (fun e => ht (by rw [e]; decide)) (fun e => ?_))
    subst e
    exact ht (by rw [hA.typ t cs hB]; decide)
  have hkR : KeepR B0 tsG V1 V3 := ⟨hA.below.trans hlo23, row⟩
  have str : ∀ g cur, Blk V1 g 9 cur → V3.heap[g]? = V1.heap[g]? := fun g cur hB => by
    have := up3 _ _ _ (hA.far g _ cur hB (by decide) (fun e => by
      subst e
      have := hA.typ _ _ hB
      exact absurd this (by decide)))
    unfold Blk at this hB
    rw [this, hB]
  have str2 : ∀ g cur, Blk V2 g 9 cur → V3.heap[g]? = V2.heap[g]? := fun g cur hB => by
    have := up3 _ _ _ hB
    unfold Blk at this hB
    rw [this, hB]
  have he : (pre ++ [c]).foldl (mStep ys) (goneQ xs E, []) = (fun k' => if k' = k then t else (pre.foldl (mStep ys) (goneQ xs E, [])).1 k', (pre.foldl (mStep ys) (goneQ xs E, [])).2 ++ [(c.2, r)]) := by rw [List.foldl_append]; exact hs
  have hkf : KeepsFrom B V V3 := ((keeps_belowF hb).from B).trans ⟨Nat.le_trans hA.keeps.size hg3.size, fun j o hj ho hc => by
    have h2 := hA.keeps.same j o ho hc
    exact (hg3.block j (Array.getElem?_eq_some_iff.1 h2).1 (fun e => by have : j = mb := by simpa using e
                                                                        omega)).trans h2⟩
  refine ⟨hkf, (KeepR.below (ts := tsG) hb hBV).trans hkR, ⟨⟨_, by rw [List.length_append]; exact hm, fun k' hk' => ?_⟩, row _ _ _ h1.mc (by decide), ?_, row _ _ _ h1.p3 (by decide), h1.t2.keptD hkR (by decide) (by decide) (by decide), ?_, h1.low.trans hkR.low⟩⟩
  · rw [he]
    unfold updV
    by_cases e : k' = k
    · simp only [if_pos e]
      exact Lies.kept hu2 (fun g cur _ hB => str2 g cur hB)
    · simp only [if_neg e]
      exact (hqf k' hk').kept str
  · rw [he]
    refine ⟨o2, up3 _ _ _ hA.box, ?_⟩
    have hM : mvO ((pre.foldl (mStep ys) (goneQ xs E, [])).2 ++ [(c.2, r)]) = mvO (pre.foldl (mStep ys) (goneQ xs E, [])).2 ++ [((4 : Int), c.2, r)] := by unfold mvO; simp
    unfold OwnC
    simp only [hM]
    exact hA.own.kept hg3 (.inr (fun e => by
      obtain ⟨es, cl, h0⟩ := hm2
      have := own_cells hA.own mb _ e h0
      cases this))
  · have h2 := hA.keeps.same D _ h1.dfr rfl
    exact (hg3.block D (Array.getElem?_eq_some_iff.1 h2).1 (fun e => hDm (by simpa using e))).trans h2
end
end Go.Proofs.YtihiakkeloejlaaGreatDoor
