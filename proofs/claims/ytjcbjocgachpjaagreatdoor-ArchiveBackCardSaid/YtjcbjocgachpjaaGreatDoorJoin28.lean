/- Several texts, joined for the limit of sixty files; each one opens with its own comment. -/
import Derived.Test.YtjcbjocgachpjaaGreatDoorJoin26
import Derived.Test.YtjcbjocgachpjaaGreatDoorJoin27
import Derived.Test.YtjcbjocgachpjaaGreatDoorJoin25
import Derived.Test.YtjcbjocgachpjaaGreatDoorJoin5
import Derived.Sort.BigQuietIn
import Derived.RangeFuncCalls
import Derived.Test.YtjcbjocgachpjaaGreatDoorJoin18
import Derived.Test.YtjcbjocgachpjaaGreatDoorJoin23
/- What archive.Read sees of a text of marks: its lines, without their ends and signs; the library's words for these. -/
set_option linter.unusedVariables false
set_option linter.unusedSimpArgs false
namespace Go.Proofs.YtjcbjocgachpjaaGreatDoor
open Go Go.RowKit
open Sw
/-- the lines of a text of marks -/
def rdL (L : List MkE) : List ByteArray := mkB (beginL ++ [10]) :: L.map fun m => mkB (lineM m ++ [10])
theorem lnS_rdL {L : List MkE} (h : ∀ m ∈ L, OkT m) : lnS (mkB (textML L)) = rdL L := by
  unfold lnS rdL
  rw [data_mkB, lines_textML (fun m hm => ⟨(right_no (h m hm).1.1).2, (print_two (h m hm).1.2.1 (h m hm).1.2.2).1⟩), List.map_cons, List.map_map]
  rfl
theorem rdL_len (L : List MkE) : (rdL L).length = L.length + 1 := by simp [rdL]
/-- which line it is -/
theorem rdL_at {L : List MkE} {pre : List ByteArray} {x : ByteArray} (h : pre ++ [x] <+: rdL L) : (pre.length = 0 ∧ x = mkB (beginL ++ [10])) ∨ ∃ (k : Nat) (hk : k < L.length), pre.length = k + 1 ∧ x = mkB (lineM L[k] ++ [10]) := by
  have hl := h.length_le
  rw [List.length_append, List.length_singleton, rdL_len] at hl
  have hx : (rdL L)[pre.length]? = some x := by
    obtain ⟨r, hr⟩ := h
    rw [← hr, List.append_assoc, List.getElem?_append_right (Nat.le_refl _), Nat.sub_self]
    rfl
  cases hp : pre.length with
  | zero =>
    rw [hp] at hx
    simp [rdL] at hx
    exact .inl ⟨rfl, hx.symm⟩
  | succ k =>
    rw [hp] at hx hl
    have hk : k < L.length := by omega
    refine .inr ⟨k, hk, rfl, ?_⟩
    simp [rdL, List.getElem?_eq_getElem hk] at hx
    exact hx.symm
theorem trimEnd_any (w : World) (a : List UInt8) (ha : a.length ≤ 100000) :
    Calls Tryz.prog 28 #[.string (mkB (a ++ [10])), .string ⟨#[10]⟩] w fun e w' => e = .returned (.string (mkB a)) ∧ w' = w := by
  have h := Tryz.strings_TrimSuffix (mkB (a ++ [10])) ⟨#[10]⟩ w (by rw [mkB_size, List.length_append]; simp; omega)
  have e : Lib.trimSuffix (mkB (a ++ [10])).data.toList (⟨#[10]⟩ : ByteArray).data.toList = a := by
    rw [data_mkB]
    unfold Lib.trimSuffix
    have h1 : Lib.hasSuffix (a ++ [10]) (⟨#[10]⟩ : ByteArray).data.toList = true := by
      unfold Lib.hasSuffix
      rw [List.isSuffixOf_iff_suffix]
      exact List.suffix_append _ _
    rw [if_pos h1]
    simp
  rw [e] at h
  exact h
theorem cutSign_any (w : World) (r : List UInt8) :
    Calls Tryz.prog 29 #[.string (mkB (61 :: r)), .string ⟨#[61]⟩] w fun e w' => e = .returned (.tuple #[.string (mkB r), .bool true]) ∧ w' = w := by
  have h := Tryz.strings_CutPrefix (mkB (61 :: r)) ⟨#[61]⟩ w
  have h1 : Lib.hasPrefix (mkB (61 :: r)).data.toList (⟨#[61]⟩ : ByteArray).data.toList = true := by
    rw [data_mkB]
    unfold Lib.hasPrefix
    simp [List.isPrefixOf]
  have e : Lib.trimPrefix (mkB (61 :: r)).data.toList (⟨#[61]⟩ : ByteArray).data.toList = r := by
    unfold Lib.trimPrefix
    rw [if_pos h1, data_mkB]
    rfl
  rw [e, h1] at h
  exact h
theorem cutBegin_any (w : World) (c : UInt8) (hc : c = 61 ∨ c = 33) :
    Calls Tryz.prog 29 #[.string (mkB beginL), .string ⟨#[c]⟩] w fun e w' => e = .returned (.tuple #[.string (mkB beginL), .bool false]) ∧ w' = w := by
  have h := Tryz.strings_CutPrefix (mkB beginL) ⟨#[c]⟩ w
  have h1 : Lib.hasPrefix (mkB beginL).data.toList (⟨#[c]⟩ : ByteArray).data.toList = false := by
    rcases hc with rfl | rfl <;> decide
  have e : Lib.trimPrefix (mkB beginL).data.toList (⟨#[c]⟩ : ByteArray).data.toList = beginL := by
    unfold Lib.trimPrefix
    rw [h1]
    rfl
  rw [e, h1] at h
  exact h
theorem own_ownM {W W' : World} {row : Option Nat} {B : Nat} {Mine : Nat → Prop} {base : Nat} {e : TypeId} {size n : Nat} {v : Value} {xs : List Value} (h : W.ownsRow base e size v n xs) (hm : ∀ g, v.ownBlock = some g → ¬ Mine g) (hg : W.grownBy W' row) (hr : ∀ r, row = some r → Mine r ∨ (B ≤ r ∧ ∃ o : Obj, W.heap[r]? = some o ∧ o.isCells = false)) : W'.ownsRow base e size v n xs := by
  refine h.kept hg (Classical.or_iff_not_imp_left.2 fun hn he => ?_)
  cases row with
  | none =>
    rcases h.2 with ⟨rfl, _⟩ | ⟨g, cap, cur, rfl, _, hh, _⟩
    · exact hn rfl
    · cases he
  | some r =>
    rcases hr r rfl with h1 | ⟨_, o, ho, hc⟩
    · exact hm r he h1
    · have := own_cells h r o he ho
      rw [hc] at this
      cases this
end Go.Proofs.YtjcbjocgachpjaaGreatDoor
/- A region that draws its order, walked along a tree of orders: as Chain's law, where two operations may be ready at once. Over any program. -/
set_option linter.unusedVariables false
set_option linter.unusedSimpArgs false
namespace Sw
open Go
/-- the orders: 'first': yields the same in the class; 'forced': the only one ready; 'two': one of two -/
inductive PermT where
  | nil : PermT
  | first : Nat → PermT → PermT
  | forced : Nat → PermT → PermT
  | two : Nat → PermT → Nat → PermT → PermT
inductive MixT where
  | nil : MixT
  | first : Oper → MixT → MixT
  | forced : Oper → MixT → MixT
  | two : Oper → MixT → Oper → MixT → MixT
def PermT.depth : PermT → Nat
  | .nil => 0
  | .first _ r => r.depth + 1
  | .forced _ r => r.depth + 1
  | .two _ r _ _ => r.depth + 1
section
variable {P : Program} {ops : Array Oper} {md : Region.Mode} {Q : Exit → Act → World → Prop} {C : World → Prop}
end
section
variable {P : Program} {ops : Array Oper} {C : World → Prop} {Q : Exit → Act → World → Prop} {o p : Oper} {r s : MixT} {a : Act} {w : World}
end
end Sw
/- XHeld's law inside a fence, in a round too: a region that draws its order, whose calls may make memory: one walk in the text's order, in a class of worlds. Over any program. -/
set_option linter.unusedVariables false
namespace Sw
open Go Go.RowKit
section
variable {F : Fence} {n : Nat} {P : Program} {ops : Array Oper} {md : Region.Mode} {C : World → Prop}
end
/-- no operation of a list defers -/
def noDefer (l : List Oper) : Bool := l.all fun o => match o.op with | .defer _ => false | _ => true
theorem noDefer_spec {l : List Oper} (h : noDefer l = true) : ∀ (i : Nat) (o : Oper), l.toArray[i]? = some o → ∀ c, o.op ≠ .defer c := by
  intro i o ho c hc
  have hm : o ∈ l := by
    have : l[i]? = some o := by simpa using ho
    exact List.mem_of_getElem? this
  have := List.all_eq_true.1 h o hm
  rw [hc] at this
  cases this
@[simp] theorem wide_round_fn (l f : Nat) : (Fence.wide.inRound l).fn f = True := rfl
end Sw
/- A region that draws its order, inside a round of the wide fence: the plain laws (Chain, ChainD, ChainT) serve there too, where nothing is deferred. Over any program. -/
set_option linter.unusedVariables false
set_option linter.unusedSimpArgs false
namespace Sw
open Go
section
variable {l n : Nat} {P : Program} {ops : Array Oper} {md : Region.Mode} {Q : Exit → Act → World → Prop}
theorem opIn_of_op {o : Oper} {a : Act} {w : World} {K : Act → World → Prop} (hnd : ∀ c, o.op ≠ .defer c) (h : o.wp P a w K (OnlyN Q)) : o.wpIn (Fence.wide.inRound l) n P a w K Q := by
  unfold Oper.wpIn
  refine ⟨fun _ _ => trivial, ?_⟩
  rw [Oper.semAt_eq _ _ _ hnd]
  unfold Oper.wp at h
  generalize (execOp a.eval o).run P w = r at *
  cases r with
  | halt x w' => cases x <;> simp only [Oper.upon] at h <;> first | exact h.elim | exact (h : False).elim
  | ok x w' =>
    cases x with
    | value u => exact h
    | skip => exact h
    | defer d => exact h
    | enter f args =>
      refine ⟨fun hd => by simp [Fence.wide] at hd, ((callsIn_wide.2 h).inRound l).mono fun e w'' he => ?_⟩
      cases e with
      | returned v => exact he
      | panicked c => exact (he : False).elim
      | outgrown => exact absurd he OnlyN.out
    | row row args =>
      refine ⟨fun hd => by simp [Fence.wide] at hd, fun c cs _ => ?_⟩
      obtain ⟨v, w2, r, s⟩ := h c cs
      exact ⟨v, w2, r, stepsIn_wide.2 s⟩
    | _ => exact (h : False).elim
theorem anyIn_of_any (hnd : ∀ (i : Nat) (o : Oper), ops[i]? = some o → ∀ c, o.op ≠ .defer c) : ∀ (f : Nat) (listed : Array Bool) (a : Act) (w : World), wpAny P md ops (OnlyN Q) f listed a w → wpAnyIn (Fence.wide.inRound l) n P md ops Q f listed a w
  | 0, _, _, _, h => h
  | f + 1, listed, a, w, h => ⟨h.1, fun i hi => by
      have h2 := h.2 i hi
      unfold wpOp at h2
      unfold wpOpIn
      cases ho : ops[i]? with
      | none => rw [ho] at h2; exact anyIn_of_any hnd f _ a w h2
      | some o =>
        rw [ho] at h2
        simp only at h2 ⊢
        split
        · rename_i hw
          rw [if_pos hw] at h2
          rcases h2 with h2 | h2
          · exact opIn_of_op (hnd i o ho) (Oper.wp_mono (fun a w => anyIn_of_any hnd f _ a w) h2)
          · exact absurd h2.2 OnlyN.out
        · rename_i hw
          rw [if_neg hw] at h2
          exact ⟨fun _ _ => trivial, anyIn_of_any hnd f _ _ w h2⟩⟩
end
theorem wpIn_region_mixD {P : Program} {lr n : Nat} (C : World → Prop) (perm : List (Nat × Bool)) {id : Nat} {Q : Exit → Act → World → Prop} {a : Act} {w : World} {l : List Oper} (hm : P.follows .mixedOrders = true)
    (hB : (noDefer l && Region.noSelect l.toArray && decide (perm.length = l.length) && permD .any l.toArray perm (Array.replicate l.length false)) = true)
    (h : mixD P l.toArray C Q (pickP l.toArray perm) a w.drew) : (Code.region id l.toArray true).wpIn (Fence.wide.inRound lr) n P Q a w := by
  simp only [Bool.and_eq_true, decide_eq_true_eq] at hB
  obtain ⟨⟨⟨hnd, hs⟩, hl⟩, hp⟩ := hB
  refine wpIn_region_any hm (anyIn_of_any (noDefer_spec hnd) _ _ _ _ (wpAny_of_anyD (C := C) _ _ _ _ ?_))
  have := anyD_of_mix (C := C) (Q := Q) hs perm (Array.replicate l.length false) a w.drew (fun k ok _ hl => by
    rw [Array.getD_eq_getD_getElem?] at hl
    rcases Nat.lt_or_ge k l.length with hk | hk
    · simp [hk] at hl
    · rw [Array.getElem?_eq_none (by simpa using hk)] at hl
      cases hl) (by simp) hp h
  rw [hl] at this
  simpa using this
end Sw
/- The contract of archive.Read, at a text of marks (they need not rise). -/
set_option linter.unusedVariables false
set_option linter.unusedSimpArgs false
namespace Go.Proofs.YtjcbjocgachpjaaGreatDoor
open Go Go.RowKit Go.Shelf
open Sw
attribute [local go_sem] Oper.semAt_some
/-- what archive.Read answers -/
def ReadPost (L : List MkE) (e : Ending) (w' : World) : Prop :=
  if rightM L [] = true then ∃ v, e = .returned (.tuple #[.agg #[v, .slice none 0 0], .bool true]) ∧ SlV w' 6 eCM v L
  else e = .returned (.tuple #[.agg #[.slice none 0 0, .slice none 0 0], .bool false])
/-- what is so behind some lines -/
def RdI (T bs : Nat) (w : World) (L : List MkE) (pre : List ByteArray) (W : World) : Prop :=
  (∃ v, Blk W T 32 #[v, .slice none 0 0] ∧ OwnMk W T v (L.take (pre.length - 1)) ∧ ∀ g, v.ownBlock = some g → g ≠ bs) ∧ Below T w W ∧ bs < W.heap.size
theorem RdI.own {T bs : Nat} {w : World} {L : List MkE} {B : Nat} (hT : T ≤ w.heap.size) (hTb : T < bs) (hB : T ≤ B) : OwnM (fun k => k = bs) B (RdI T bs w L) := fun pre W W' row h hg hr => by
  obtain ⟨⟨v, h1, h2, h3⟩, h4, h5⟩ := h
  refine ⟨⟨v, blk_ownM h1 (by omega) hg hr, own_ownM h2 (fun g hg' hm => h3 g hg' hm) hg hr, h3⟩, h4.grown hg (Nat.le_trans hT h4.size) (fun k e => ?_), Nat.lt_of_lt_of_le h5 hg.size⟩
  rcases hr k e with h | h
  · rw [h]; omega
  · exact Nat.le_trans hB h.1
set_option maxRecDepth 100000 in
set_option maxHeartbeats 8000000 in
theorem archRead_any (w : World) (L : List MkE) (hn : L.length ≤ 100) (hok : ∀ m ∈ L, OkT m) :
    Calls Tryz.prog 10 #[.string (mkB (textML L))] w fun e w' => ReadPost L e w' ∧ Below w.heap.size w w' := by
  have htl := textML_max hn hok
  have hlns := lnS_rdL hok
  have HOK := Lib.hid (And.intro hok hn)
  have HLS := Lib.hid hlns
  obtain ⟨s, hs⟩ : ∃ s, mkB (textML L) = s := ⟨_, rfl⟩
  have HSE := Lib.hid hs
  have hsz : s.size ≤ 40000 := by rw [← hs, mkB_size]; exact htl
  rw [hs] at HLS ⊢
  clear hlns hs hok htl
  obtain ⟨W0, hW0⟩ : ∃ W0, w.alloc (.cells #[.slice none 0 0, .slice none 0 0] 32) = W0 := ⟨_, rfl⟩
  have hb0 : Below w.heap.size w W0 := by rw [← hW0]; exact (Below.refl _ w).alloc (Nat.le_refl _) _
  have hT0 : Blk W0 w.heap.size 32 #[.slice none 0 0, .slice none 0 0] := by rw [← hW0]; exact Blk.new _ _ _
  have HW0 := Lib.hid hW0
  have HLA := Lib.hid (lines_any W0 s)
  have H0 := Lib.hid (And.intro hb0 hT0)
  clear hW0 hb0 hT0
  refine callsIn_wide.1 (?_ : CallsIn Fence.wide 9 _ _ _ _ _)
  refine callsIn_of_wp_marks Tryz.func10 rfl trivial ?_ rfl
  simp only [Tryz.ntmps10, List.size_toArray, List.length_cons, List.length_nil, Nat.reduceAdd, Nat.reduceSub, Array.replicate_succ, Array.replicate_zero, List.push_toArray, List.append_toArray, List.nil_append, List.cons_append]
  refine wpIn_wide.2 ?_
  go_upto_region 1 with fail
  rw [HW0.out]
  refine (wpIn_wide (n := 9)).1 ?_
  gi_wp2
  refine ⟨trivial, (callsIn_wide.2 HLA.out).mono ?_⟩
  rintro e W1 ⟨rfl, hW1⟩
  obtain ⟨bs, hbs⟩ : ∃ bs, W0.heap.size = bs := ⟨_, rfl⟩
  rw [hbs]
  have hbs1 : Blk W1 bs 9 #[.string s] := by rw [hW1, ← hbs]; exact Blk.new _ _ _
  have hb1 : Below W0.heap.size W0 W1 := by rw [hW1]; exact (Below.refl _ W0).alloc (Nat.le_refl _) _
  have hT1 := H0.out.2.below hb1 H0.out.2.lt
  have hB1 := H0.out.1.trans (hb1.mono H0.out.1.size)
  have hTb : w.heap.size < bs := by rw [← hbs]; exact H0.out.2.lt
  have hbl : bs < W1.heap.size := hbs1.lt
  obtain ⟨T, hT⟩ : ∃ T, w.heap.size = T := ⟨_, rfl⟩
  have HT := Lib.hid (And.intro hT hTb)
  rw [hT] at hT1 hTb hB1 ⊢
  have hI0 : RdI T bs w L [] W1 := ⟨⟨_, hT1, World.ownsRow_nil _ _ _ _, fun g hg => by cases hg⟩, hB1, hbl⟩
  have hLT := lines_tells 8 (by omega) bs s W1 (by omega) hbs1
  clear hW1 hbs hb1 hT1
  gi_wp2
  refine (wpIn_wide (n := 9)).1 ?_
  gi_wp2
  have hKb : ∀ (W : World) (l : Nat) (o o' : Obj), W1.heap.size ≤ l → W.heap[l]? = some o → o.isCells = false → o.isWalk = false → Kp1 bs W (W.putObj l o') := fun W l o o' hl _ _ _ => ⟨by simp, World.putObj_heap_other (by omega)⟩
  have hTw : T ≤ w.heap.size := Nat.le_of_eq hT.symm
  have hTW : T ≤ W1.heap.size := by omega
  refine wpIn_rangeFunc_tell (w := W1) (encs := fun x : ByteArray => #[.string x]) (Mine := fun k => k = bs) (fun _ h => by rw [h]; exact hbl) rfl (by omega) (gf := 56) (lb := #[.pointer (some ⟨bs, 0, none⟩)]) rfl trivial (enters_of Tryz.func56 (by kernel_rfl) rfl)
    hLT Kp1.trans hKb (Below.refl _ _) (fun _ => rfl)
    (RdI T bs w L) (fun c pre W => False) (RdI.own hTw hTb hTW) (fun c => fun _ _ _ _ hs _ _ => hs.elim) hI0
    ?a1 ?assign ?body ?done ?stop
  case assign =>
    rintro l x W K hK
    gi_wp2
    exact hK
  case stop =>
    rintro D c pre W hD hSp h
    exact h.elim
  case body =>
    rintro l pre x W hI hTl
    rw [HLS.out] at hTl
    rcases rdL_at hTl with ⟨h0, rfl⟩ | ⟨k, hk, hpl, rfl⟩
    · have HTR := Lib.hid (trimEnd_any W beginL (by decide))
      have HC1 := Lib.hid (cutBegin_any W 61 (.inl rfl))
      have HC2 := Lib.hid (cutBegin_any W 33 (.inr rfl))
      have HI := Lib.hid hI
      clear hI hTl
      generalize mkB (beginL ++ [10]) = x1 at *
      generalize mkB beginL = x2 at *
      gi_wp2
      refine ((callsIn_wide.2 HTR.out).inRound l).mono ?_
      rintro e w2 ⟨rfl, rfl⟩
      gi_wp2
      refine ((callsIn_wide.2 HC1.out).inRound l).mono ?_
      rintro e w3 ⟨rfl, rfl⟩
      gi_wp2
      refine ((callsIn_wide.2 HC2.out).inRound l).mono ?_
      rintro e w4 ⟨rfl, rfl⟩
      gi_wp2
      refine ⟨KeepsOthers.refl _, ⟨Nat.le_refl _, rfl⟩, ?_⟩
      have h2 := HI.out
      unfold RdI at h2 ⊢
      rw [List.length_append, h0]
      rw [h0] at h2
      exact h2
    · have hm := HOK.out.1 _ (List.getElem_mem hk)
      have hll := lineM_len hm
      have HTR := Lib.hid (trimEnd_any W (lineM L[k]) (by omega))
      have HCS := Lib.hid (show Calls Tryz.prog 29 #[.string (mkB (lineM L[k])), .string ⟨#[61]⟩] W fun e w' => e = .returned (.tuple #[.string (bodyM L[k]), .bool true]) ∧ w' = W from cutSign_any W _)
      have HMK := Lib.hid (fun V => archMark_any V L[k] hm)
      obtain ⟨⟨v, hB, hO, hne⟩, hBl, hbsl⟩ := hI
      rw [hpl, Nat.add_sub_cancel] at hO
      have htk := List.take_succ_eq_append_getElem hk
      unfold OwnMk at hO
      rw [List.length_take, Nat.min_eq_left (Nat.le_of_lt hk)] at hO
      obtain ⟨Av, cv, rfl, _, _, _⟩ := SlV_of_any hO
      have hkn : k ≤ 100 := by have := HOK.out.2; omega
      obtain ⟨x, hx⟩ : ∃ x, L[k] = x := ⟨_, rfl⟩
      rw [hx] at htk HTR HCS HMK ⊢
      clear hx hm hll hTl
      have HP := Lib.hid (And.intro hB (And.intro hO (And.intro hne (And.intro hBl (And.intro hbsl (And.intro hpl htk))))))
      generalize mkB (lineM x ++ [10]) = x1 at *
      generalize mkB (lineM x) = x2 at *
      generalize bodyM x = x3 at *
      obtain ⟨q, ⟨kd, md, tm, sz, sm⟩⟩ := x
      simp only [eCM] at HMK
      clear hB hO hne hBl hbsl hpl htk
      gi_wp2
      refine ((callsIn_wide.2 HTR.out).inRound l).mono ?_
      rintro e w2 ⟨rfl, hw2⟩
      rw [hw2]
      clear hw2 w2
      gi_wp2
      refine ((callsIn_wide.2 HCS.out).inRound l).mono ?_
      rintro e w2 ⟨rfl, hw2⟩
      rw [hw2]
      clear hw2 w2
      gi_wp2
      have q0 : ∀ m : Held (fun W' => Blk W' T 32 #[.slice Av k cv, .slice none 0 0]), (HeldW m).cell? ⟨T, 0, none⟩ = some (.slice Av k cv) := fun m => Blk.cell (HeldW_spec m) 0
      have HC := Lib.hid (show Blk W.drew T 32 #[.slice Av k cv, .slice none 0 0] from HP.out.1.drew)
      refine wpIn_region_mixD (fun W' => Blk W' T 32 #[.slice Av k cv, .slice none 0 0]) [(0, true), (1, true), (2, true), (3, false), (4, false), (5, false), (6, true), (7, false)] (by kernel_rfl) (by kernel_rfl) ?_
      simp only [pickP, List.filterMap_cons, List.filterMap_nil, List.getElem?_toArray, List.getElem?_cons_succ, List.getElem?_cons_zero, Option.map_some]
      repeat (apply mixD_first; apply Exists.intro; refine ⟨fun m => ?_, HC.out, ?_⟩; · (go_big_quiet_step (fail); exact wpQuiet_nil rfl))
      refine mixD_forced HC.out ?_
      go_wp2_with fail
      refine (HMK.out W.drew).mono ?_
      rintro e w4 ⟨rfl, hb4⟩
      have hbW4 : Below W.heap.size W w4 := ((Below.refl W.heap.size W).drew).trans hb4
      have hO4 := own_kept HP.out.2.1 hbW4
      have HC4 := Lib.hid (show Blk w4 T 32 #[.slice Av k cv, .slice none 0 0] from HP.out.1.below hbW4 HP.out.1.lt)
      obtain ⟨U1, hU1⟩ : ∃ U, w4.alloc (.cells #[.string q, .int .i64 kd, .int .i64 md, .int .u32 tm, .int .i64 sz, .int .u32 sm] 61) = U := ⟨_, rfl⟩
      have hbU : Below w4.heap.size w4 U1 := by rw [← hU1]; exact (Below.refl _ _).alloc (Nat.le_refl _) _
      have hbWU := hbW4.trans (hbU.mono hbW4.size)
      have hBU : Blk U1 w4.heap.size 61 #[.string q, .int .i64 kd, .int .i64 md, .int .u32 tm, .int .i64 sz, .int .u32 sm] := by rw [← hU1]; exact Blk.new _ _ _
      have hszU : U1.heap.size = w4.heap.size + 1 := by rw [← hU1]; simp
      have HU := Lib.hid (And.intro hU1 (And.intro hbWU (And.intro (HC4.out.below hbU HC4.out.lt) (And.intro hBU (And.intro (own_kept hO4 hbU) hszU)))))
      clear hb4 hbW4 hO4 hU1 hbU hbWU hBU hszU
      go_wp2_with fail
      show mixD _ _ _ _ _ _ _
      refine mixD_forced HC4.out ?_
      go_wp2_with fail
      show mixD _ _ _ _ _ _ _
      rw [HU.out.1]
      refine mixD_forced HU.out.2.2.1 ?_
      have hTU : T ≤ U1.heap.size := Nat.le_of_lt HU.out.2.2.1.lt
      go_wp2_with (at_builtin; refine wpList_app rfl _ _ 29 rfl T 61 (.agg #[.string ⟨#[]⟩, .int .i64 0, .int .i64 0, .int .u32 0, .int .i64 0, .int .u32 0]) 6 56 Tryz.underlying29 infoMk rfl (by decide) _ k _ rfl HU.out.2.2.2.2.1 w4.heap.size 1 #[.string q, .int .i64 kd, .int .i64 md, .int .u32 tm, .int .i64 sz, .int .u32 sm] 61 rfl HU.out.2.2.2.1 rfl (by simp [Value.oneCell']) (by omega) (by decide) hTU _ rfl ?_; intro g cap U2 ho2 hg2 hat2 hlt2)
      have hB5 : Blk U2 T 32 #[.slice Av k cv, .slice none 0 0] := HU.out.2.2.1.grown hg2 (fun e => own_ne_blk HU.out.2.2.2.2.1 HU.out.2.2.1 (by decide) e.symm)
      have HC5 := Lib.hid hB5
      have HA := Lib.hid (And.intro ho2 (And.intro hg2 hat2))
      clear hB5 ho2 hg2 hat2 hlt2 hTU
      show mixD _ _ _ _ _ _ _
      repeat (apply mixD_first; apply Exists.intro; refine ⟨fun m => ?_, HC5.out, ?_⟩; · (go_big_quiet_step (fail); exact wpQuiet_nil rfl))
      clear q0
      have c5 := HC5.out.cell 0
      have f5 := HC5.out.frozen 0
      simp only [List.getElem?_toArray, List.getElem?_cons_zero] at c5
      refine mixD_forced HC5.out ?_
      go_wp2_with fail
      show mixD _ _ _ _ _ _ _
      refine mixD_nil ?_
      have hkeep : KeepsOthers W (U2.setCell ⟨T, 0, none⟩ (.slice (some ⟨g, 0, none⟩) (k + 1) cap)) := ((keeps_belowF HU.out.2.1).trans (KeepsOthers.of_grownBy HA.out.2.1 (own_cells HU.out.2.2.2.2.1))).trans (KeepsOthers.setCell _ _ _)
      have hbsW := HP.out.2.2.2.2.1
      have hbsU : bs < U1.heap.size := Nat.lt_of_lt_of_le hbsW HU.out.2.1.size
      have hTb2 : T < bs := by have := HT.out; omega
      have hkp : Kp1 bs W (U2.setCell ⟨T, 0, none⟩ (.slice (some ⟨g, 0, none⟩) (k + 1) cap)) := ⟨hkeep.size, by
        rw [Below.heap_setCell U2 ⟨T, 0, none⟩ _ bs (fun e => by simp at e; omega), HA.out.2.1.block bs hbsU (fun e => HP.out.2.2.1 bs (by first | exact e | exact e.symm) rfl)]
        exact HU.out.2.1.block bs hbsW⟩
      have hown := HA.out.1.kept (grown_put (grown_refl U2 (some T)) 0 (.slice (some ⟨g, 0, none⟩) (k + 1) cap)) (.inr (own_ne_blk HA.out.1 HC5.out (by decide)))
      have hbelow : Below T w (U2.setCell ⟨T, 0, none⟩ (.slice (some ⟨g, 0, none⟩) (k + 1) cap)) := ((HP.out.2.2.2.1.trans (HU.out.2.1.mono (Nat.le_of_lt HP.out.1.lt))).grown HA.out.2.1 (Nat.le_of_lt HU.out.2.2.1.lt) (fun j hj => (HU.out.2.2.2.2.1.lt j hj).1)).setCell (p := ⟨T, 0, none⟩) (Nat.le_refl _) _
      refine ⟨hkeep, hkp, ⟨_, HC5.out.put 0 _, ?_, ?_⟩, hbelow, Nat.lt_of_lt_of_le hbsW hkeep.size⟩
      · unfold OwnMk
        rw [List.length_append, HP.out.2.2.2.2.2.1, List.length_singleton, Nat.add_sub_cancel, HP.out.2.2.2.2.2.2, List.length_append, List.length_take, Nat.min_eq_left (by omega), List.flatMap_append]
        simpa [eCM] using hown
      · intro g' hg'
        have e : g' = g := by simpa [Value.ownBlock] using hg'.symm
        subst e
        rcases HA.out.2.2 with h | h
        · exact HP.out.2.2.1 _ h
        · omega
  case done =>
    rintro D zs W hD hzs hI hK
    have hz : zs = rdL L := (hzs : zs = lnS s).trans HLS.out
    subst hz
    obtain ⟨⟨v, hB, hO, -⟩, hBl, -⟩ := hI
    rw [rdL_len, Nat.add_sub_cancel, List.take_of_length_le (Nat.le_refl _)] at hO
    have hslv := hO.slv
    have hnil : SlV W 6 eCM (.slice none 0 0) [] := ⟨none, 0, rfl, Nat.le_refl _, Nat.zero_le _, fun h => absurd h (by simp)⟩
    have hwr := archWrite_any W v (.slice none 0 0) L hslv hnil HOK.out.2 HOK.out.1
    unfold OwnMk at hO
    obtain ⟨Av, cv, rfl, _, _, _⟩ := SlV_of_any hO
    obtain ⟨n, hnn⟩ : ∃ n, L.length = n := ⟨_, rfl⟩
    rw [hnn] at hB hO hwr
    have HF := Lib.hid (And.intro hB (And.intro hO (And.intro hBl (And.intro hK hnn))))
    have HWR := Lib.hid hwr
    have c0 := hB.cell 0
    have c1 := hB.cell 1
    simp only [List.getElem?_toArray, List.getElem?_cons_succ, List.getElem?_cons_zero] at c0 c1
    have hDT : w.heap.size ≤ D := by omega
    have HD := Lib.hid hDT
    have hbn := bytes_bne_self s
    clear hB hO hBl hK hnn hwr hslv hnil hzs hLT hKb hI0 hD hDT hbs1 hbl hB1 hTb hTw hTW
    go_wp2_with fail
    refine HWR.out.mono ?_
    rintro e w5 ⟨he, hb5⟩
    have hB5 := HF.out.1.below hb5 HF.out.1.lt
    have hO5 := own_kept HF.out.2.1 hb5
    have hK5 : w5.heap[D]? = some (Obj.deferred (some [])) := (hb5.block D (Array.getElem?_eq_some_iff.1 HF.out.2.2.2.1).1).trans HF.out.2.2.2.1
    have hbl5 := HF.out.2.2.1.trans (hb5.mono (Nat.le_of_lt HF.out.1.lt))
    have d0 := hB5.cell 0
    have d1 := hB5.cell 1
    simp only [List.getElem?_toArray, List.getElem?_cons_succ, List.getElem?_cons_zero] at d0 d1
    have f0 := hB5.frozen 0
    have f1 := hB5.frozen 1
    have H5 := Lib.hid (And.intro hB5 (And.intro hO5 (And.intro hK5 hbl5)))
    clear hb5 hB5 hO5 hK5 hbl5 c0 c1 HWR
    unfold writeV at he
    cases hR : rightM L [] with
    | true =>
      rw [hR, if_pos rfl, HSE.out] at he
      have HR := Lib.hid hR
      subst he
      clear hR
      go_wp2_with fail
      obtain ⟨W6, hW6⟩ : ∃ W6, (w5.setCell ⟨T, 0, none⟩ (.slice Av n cv)).setCell ⟨T, 1, none⟩ (.slice none 0 0) = W6 := ⟨_, rfl⟩
      have hK6 : W6.heap[D]? = some (Obj.deferred (some [])) := by rw [← hW6]; exact ((KeepsOthers.setCell w5 ⟨T, 0, none⟩ (.slice Av n cv)).trans (KeepsOthers.setCell _ ⟨T, 1, none⟩ (.slice none 0 0))).same D _ H5.out.2.2.1 rfl
      have hB6 : Blk W6 T 32 #[.slice Av n cv, .slice none 0 0] := by rw [← hW6]; exact (H5.out.1.put 0 (.slice Av n cv)).put 1 (.slice none 0 0)
      have hb6 : Below T w W6 := by rw [← hW6]; exact (H5.out.2.2.2.setCell (p := ⟨T, 0, none⟩) (Nat.le_refl _) _).setCell (p := ⟨T, 1, none⟩) (Nat.le_refl _) _
      have hw := fun r (e : some D = some r) => show ∃ o : Obj, W6.heap[r]? = some o ∧ o.isCells = false from (by cases e; exact ⟨_, hK6, rfl⟩)
      have hO6 : W6.ownsRow T 61 6 (.slice Av n cv) n (L.flatMap eCM) := by
        rw [← hW6]
        have h1 := H5.out.2.1.kept (grown_put (grown_refl w5 (some T)) 0 (.slice Av n cv)) (.inr (own_ne_blk H5.out.2.1 H5.out.1 (by decide)))
        exact h1.kept (grown_put (grown_refl _ (some T)) 1 (.slice none 0 0)) (.inr (own_ne_blk h1 (H5.out.1.put 0 (.slice Av n cv)) (by decide)))
      rw [hW6]
      refine ⟨by simp, .inl ⟨_, _, rfl, run_takeDeferred hK6, ?_⟩⟩
      refine ⟨_, results_cell_two rfl _ _ T 32 #[.slice Av n cv, .slice none 0 0] (0, 0) _ rfl (blk_ownF hB6 (grownBy_putObj' _ D (.deferred none)) hw) Tryz.underlying32 rfl (by kernel_rfl), ?_, ?_⟩
      · unfold ReadPost
        rw [HR.out, if_pos rfl]
        refine ⟨_, rfl, ?_⟩
        have h2 := own_ownF hO6 (grownBy_putObj' _ D (.deferred none)) hw
        rw [← HF.out.2.2.2.2] at h2 ⊢
        exact SlV.of_own h2 eCM_len (by decide)
      · exact (hb6.mono (Nat.le_of_eq HT.out.1)).trans (belowK_b (w := w) (Nat.le_refl _) _ D _ _ HD.out hK6 rfl rfl)
    | false =>
      rw [hR, if_neg (by decide)] at he
      have HR := Lib.hid hR
      subst he
      clear hR
      go_wp2_with fail
      obtain ⟨W6, hW6⟩ : ∃ W6, (w5.setCell ⟨T, 0, none⟩ (.slice none 0 0)).setCell ⟨T, 1, none⟩ (.slice none 0 0) = W6 := ⟨_, rfl⟩
      have hK6 : W6.heap[D]? = some (Obj.deferred (some [])) := by rw [← hW6]; exact ((KeepsOthers.setCell w5 ⟨T, 0, none⟩ (.slice none 0 0)).trans (KeepsOthers.setCell _ ⟨T, 1, none⟩ (.slice none 0 0))).same D _ H5.out.2.2.1 rfl
      have hB6 : Blk W6 T 32 #[.slice none 0 0, .slice none 0 0] := by rw [← hW6]; exact (H5.out.1.put 0 (.slice none 0 0)).put 1 (.slice none 0 0)
      have hb6 : Below T w W6 := by rw [← hW6]; exact (H5.out.2.2.2.setCell (p := ⟨T, 0, none⟩) (Nat.le_refl _) _).setCell (p := ⟨T, 1, none⟩) (Nat.le_refl _) _
      have hw := fun r (e : some D = some r) => show ∃ o : Obj, W6.heap[r]? = some o ∧ o.isCells = false from (by cases e; exact ⟨_, hK6, rfl⟩)
      rw [hW6]
      refine ⟨by simp, .inl ⟨_, _, rfl, run_takeDeferred hK6, ?_⟩⟩
      refine ⟨_, results_cell_two rfl _ _ T 32 #[.slice none 0 0, .slice none 0 0] (0, 0) _ rfl (blk_ownF hB6 (grownBy_putObj' _ D (.deferred none)) hw) Tryz.underlying32 rfl (by kernel_rfl), ?_, ?_⟩
      · unfold ReadPost
        rw [HR.out, if_neg (by decide)]
        rfl
      · exact (hb6.mono (Nat.le_of_eq HT.out.1)).trans (belowK_b (w := w) (Nat.le_refl _) _ D _ _ HD.out hK6 rfl rfl)
end Go.Proofs.YtjcbjocgachpjaaGreatDoor
/- The document's example of layer 26. -/
set_option linter.unusedVariables false
set_option linter.unusedSimpArgs false
namespace Go.Proofs.YtjcbjocgachpjaaGreatDoor
open Go Go.RowKit
open Sw
theorem slv_nilM (W : World) : SlV W 6 eCM (.slice none 0 0) [] := ⟨none, 0, rfl, Nat.le_refl _, Nat.zero_le _, fun h => absurd h (by simp)⟩
set_option maxRecDepth 100000 in
set_option maxHeartbeats 4000000 in
theorem archLives_any (w : World) : Calls Tryz.prog 6 #[] w fun e w' => e = .returned (.bool true) ∧ Below w.heap.size w w' := by
  have hw := archWrite_any w (.slice none 0 0) (.slice none 0 0) [] (slv_nilM w) (slv_nilM w) (by simp) (fun m hm => by cases hm)
  have hwv : writeV [] = .tuple #[.string ⟨#[115, 119, 105, 110, 103, 108, 101, 32, 49, 10]⟩, .int .i64 0] := rfl
  rw [hwv] at hw
  have HR := Lib.hid (fun W => archRead_any W [] (by simp) (fun m hm => by cases hm))
  rw [show mkB (textML []) = ⟨#[115, 119, 105, 110, 103, 108, 101, 32, 49, 10]⟩ from rfl] at HR
  have HW := Lib.hid hw
  clear hw hwv
  have hbn : ((⟨#[115, 119, 105, 110, 103, 108, 101, 32, 49, 10]⟩ : ByteArray) == (⟨#[115, 119, 105, 110, 103, 108, 101, 32, 49, 10]⟩ : ByteArray)) = true := bytes_beq_self _
  go_enter Tryz.func6, Tryz.ntmps6
  go_wp2_with fail
  refine HW.out.mono ?_
  rintro e w1 ⟨rfl, hb1⟩
  have H1 := Lib.hid hb1; clear hb1
  go_wp2_with fail
  refine (HR.out w1).mono ?_
  rintro e w2 ⟨hp, hb2⟩
  unfold ReadPost at hp
  rw [if_pos (show rightM [] [] = true from rfl)] at hp
  obtain ⟨v, rfl, A, c, rfl, hc, _, _⟩ := hp
  have H2 := Lib.hid ((H1.out.trans (hb2.mono H1.out.size)).alloc (Nat.le_trans H1.out.size hb2.size) (.cells #[.slice A 0 c, .slice none 0 0] 32))
  clear hb2
  simp only [List.length_nil]
  go_wp2_with fail
  go_ret
  exact ⟨rfl, H2.out⟩
end Go.Proofs.YtjcbjocgachpjaaGreatDoor
/- Rows of marks that hold the same: the reference's Same, slices.Equal, archive.Same. -/
set_option linter.unusedVariables false
set_option linter.unusedSimpArgs false
namespace Go.Proofs.YtjcbjocgachpjaaGreatDoor
open Go Go.RowKit
open Sw
theorem eq_ref26Same (a : ByteArray) (k m t z s : Int) (W : World) : (binOp .eql 61 (.agg #[.string a, .int .i64 k, .int .i64 m, .int .u32 t, .int .i64 z, .int .u32 s]) (.agg #[.string a, .int .i64 k, .int .i64 m, .int .u32 t, .int .i64 z, .int .u32 s])).run Tryz.prog W = .ok (.bool true) W := by
  simp [go_sem, Tryz.underlying61, Tryz.underlying55, Tryz.underlying3, Tryz.underlying41, Tryz.underlying9]
theorem ne_mkSame (a : ByteArray) (k m t z s : Int) (W : World) : (binOp .neq 61 (.agg #[.string a, .int .i64 k, .int .i64 m, .int .u32 t, .int .i64 z, .int .u32 s]) (.agg #[.string a, .int .i64 k, .int .i64 m, .int .u32 t, .int .i64 z, .int .u32 s])).run Tryz.prog W = .ok (.bool false) W := by
  simp [go_sem, Tryz.underlying61, Tryz.underlying55, Tryz.underlying3, Tryz.underlying41, Tryz.underlying9]
set_option maxRecDepth 100000 in
set_option maxHeartbeats 4000000 in
theorem ref26Same_same (w : World) (u v : Value) (l : List MkE) (hu : SlV w 6 eCM u l) (hv : SlV w 6 eCM v l) :
    Calls Tryz.prog 13 #[u, v] w fun e w' => e = .returned (.bool true) ∧ Below w.heap.size w w' := by
  obtain ⟨A1, c1, rfl, hc11, hc12, hsl1⟩ := hu
  obtain ⟨A2, c2, rfl, hc21, hc22, hsl2⟩ := hv
  obtain ⟨n, hn⟩ : ∃ n, l.length = n := ⟨_, rfl⟩
  rw [hn] at hc11 hc21 ⊢
  unfold maxLen at hc12 hc22
  have HL := Lib.hid hn; clear hn
  have H1 := Lib.hid hsl1; clear hsl1
  have H2 := Lib.hid hsl2; clear hsl2
  have HEQ := eq_ref26Same
  go_enter Tryz.func13, Tryz.ntmps13
  go_wp2_with fail
  go_loopw [13] (fun iv wr => ∃ i : Nat, i ≤ n ∧ iv = .int .i64 i ∧ Below w.heap.size w wr) (fun iv _ => n - (intOf iv).toNat)
  case atStart => exact ⟨0, Nat.zero_le _, rfl, Below.refl _ _⟩
  case round =>
    obtain ⟨i, hi, rfl, hb⟩ := hrel
    by_cases hlt : i < n
    · have hiL : i < l.length := by have := HL.out; omega
      obtain ⟨b1, off1, rfl, hbb1, hcs1⟩ := (H1.out.below hb (Nat.le_refl _)) (by omega)
      obtain ⟨b2, off2, rfl, hbb2, hcs2⟩ := (H2.out.below hb (Nat.le_refl _)) (by omega)
      have p0 := hcs1 i hiL 0 (by omega)
      have q0 := hcs2 i hiL 0 (by omega)
      have p1 := hcs1 i hiL 1 (by omega)
      have q1 := hcs2 i hiL 1 (by omega)
      have p2 := hcs1 i hiL 2 (by omega)
      have q2 := hcs2 i hiL 2 (by omega)
      have p3 := hcs1 i hiL 3 (by omega)
      have q3 := hcs2 i hiL 3 (by omega)
      have p4 := hcs1 i hiL 4 (by omega)
      have q4 := hcs2 i hiL 4 (by omega)
      have p5 := hcs1 i hiL 5 (by omega)
      have q5 := hcs2 i hiL 5 (by omega)
      simp only [eCM, List.getElem?_cons_succ, List.getElem?_cons_zero, Nat.add_zero] at p0 p1 p2 p3 p4 p5 q0 q1 q2 q3 q4 q5
      clear hcs1 hcs2
      have hi1 : (i : Int) < n := by omega
      obtain ⟨x, hx⟩ : ∃ x, l[i] = x := ⟨_, rfl⟩
      simp only [hx] at p0 p1 p2 p3 p4 p5 q0 q1 q2 q3 q4 q5
      obtain ⟨a, k, m, t, z, s⟩ := x
      simp only at p0 p1 p2 p3 p4 p5 q0 q1 q2 q3 q4 q5
      clear hx
      have HB := Lib.hid hb; clear hb
      go_wp2_with fail
      go_region
      go_wp2_with fail
      go_roundw
      case rel => exact ⟨i + 1, by omega, by go_num, HB.out.drew⟩
      case measure => simp [intOf]; omega
    · obtain rfl : i = n := by omega
      have HB := Lib.hid hb; clear hb
      go_wp2_with fail
      go_ret
      exact ⟨rfl, HB.out⟩
set_option maxRecDepth 100000 in
set_option maxHeartbeats 4000000 in
theorem equalMk_same (w : World) (u v : Value) (l : List MkE) (hu : SlV w 6 eCM u l) (hv : SlV w 6 eCM v l) :
    Calls Tryz.prog 31 #[u, v] w fun e w' => e = .returned (.bool true) ∧ Below w.heap.size w w' := by
  obtain ⟨A1, c1, rfl, hc11, hc12, hsl1⟩ := hu
  obtain ⟨A2, c2, rfl, hc21, hc22, hsl2⟩ := hv
  obtain ⟨n, hn⟩ : ∃ n, l.length = n := ⟨_, rfl⟩
  rw [hn] at hc11 hc21 ⊢
  unfold maxLen at hc12 hc22
  have HL := Lib.hid hn; clear hn
  have H1 := Lib.hid hsl1; clear hsl1
  have H2 := Lib.hid hsl2; clear hsl2
  have HEQ := ne_mkSame
  go_enter Tryz.func31, Tryz.ntmps31
  go_wp2_with fail
  go_loopw [5, 13] (fun _ iv wr => ∃ i : Nat, i ≤ n ∧ iv = .int .i64 i ∧ Below w.heap.size w wr) (fun _ iv _ => n - (intOf iv).toNat)
  case atStart => exact ⟨0, Nat.zero_le _, rfl, Below.refl _ _⟩
  case round =>
    obtain ⟨i, hi, rfl, hb⟩ := hrel
    by_cases hlt : i < n
    · have hiL : i < l.length := by have := HL.out; omega
      obtain ⟨b1, off1, rfl, hbb1, hcs1⟩ := (H1.out.below hb (Nat.le_refl _)) (by omega)
      obtain ⟨b2, off2, rfl, hbb2, hcs2⟩ := (H2.out.below hb (Nat.le_refl _)) (by omega)
      have p0 := hcs1 i hiL 0 (by omega)
      have q0 := hcs2 i hiL 0 (by omega)
      have p1 := hcs1 i hiL 1 (by omega)
      have q1 := hcs2 i hiL 1 (by omega)
      have p2 := hcs1 i hiL 2 (by omega)
      have q2 := hcs2 i hiL 2 (by omega)
      have p3 := hcs1 i hiL 3 (by omega)
      have q3 := hcs2 i hiL 3 (by omega)
      have p4 := hcs1 i hiL 4 (by omega)
      have q4 := hcs2 i hiL 4 (by omega)
      have p5 := hcs1 i hiL 5 (by omega)
      have q5 := hcs2 i hiL 5 (by omega)
      simp only [eCM, List.getElem?_cons_succ, List.getElem?_cons_zero, Nat.add_zero] at p0 p1 p2 p3 p4 p5 q0 q1 q2 q3 q4 q5
      clear hcs1 hcs2
      have hi1 : (i : Int) < n := by omega
      obtain ⟨x, hx⟩ : ∃ x, l[i] = x := ⟨_, rfl⟩
      simp only [hx] at p0 p1 p2 p3 p4 p5 q0 q1 q2 q3 q4 q5
      obtain ⟨a, k, m, t, z, s⟩ := x
      simp only at p0 p1 p2 p3 p4 p5 q0 q1 q2 q3 q4 q5
      clear hx
      have HB := Lib.hid hb; clear hb
      go_wp2_with fail
      go_region
      go_wp2_with fail
      go_roundw
      case rel => exact ⟨i + 1, by omega, by go_num, HB.out.drew⟩
      case measure => simp [intOf]; omega
    · obtain rfl : i = n := by omega
      have HB := Lib.hid hb; clear hb
      go_wp2_with fail
      go_ret
      exact ⟨rfl, HB.out⟩
set_option maxRecDepth 100000 in
set_option maxHeartbeats 4000000 in
theorem archSame_same (w : World) (u1 u2 v1 v2 : Value) (l1 l2 : List MkE) (h1 : SlV w 6 eCM u1 l1) (h2 : SlV w 6 eCM u2 l2) (g1 : SlV w 6 eCM v1 l1) (g2 : SlV w 6 eCM v2 l2) :
    Calls Tryz.prog 11 #[.agg #[u1, u2], .agg #[v1, v2]] w fun e w' => e = .returned (.bool true) ∧ Below w.heap.size w w' := by
  obtain ⟨W, hW⟩ : ∃ W, (w.alloc (.cells #[u1, u2] 32)).alloc (.cells #[v1, v2] 32) = W := ⟨_, rfl⟩
  have hbW : Below w.heap.size w W := by rw [← hW]; exact ((Below.refl _ w).alloc (Nat.le_refl _) _).alloc (by simp) _
  have hB1 : Blk W w.heap.size 32 #[u1, u2] := by rw [← hW]; exact blk_fst _ _ _ _
  have hB2 : Blk W (w.heap.size + 1) 32 #[v1, v2] := by rw [← hW]; exact blk_snd _ _ _ _
  have HS1 := Lib.hid (equalMk_same W u1 v1 l1 (h1.below hbW (Nat.le_refl _)) (g1.below hbW (Nat.le_refl _)))
  have HS2 := Lib.hid (fun V (hV : Below w.heap.size w V) => equalMk_same V u2 v2 l2 (h2.below hV (Nat.le_refl _)) (g2.below hV (Nat.le_refl _)))
  have x0 := hB1.cell 0
  have y0 := hB2.cell 0
  simp only [List.getElem?_toArray, List.getElem?_cons_succ, List.getElem?_cons_zero] at x0 y0
  have HB := Lib.hid (And.intro hbW (And.intro hB1 hB2))
  clear h1 h2 g1 g2 hbW hB1 hB2
  have HW := Lib.hid hW
  clear hW
  go_enter Tryz.func11, Tryz.ntmps11
  go_upto_region 1 with fail
  rw [HW.out]
  go_wp2_with fail
  refine HS1.out.mono ?_
  rintro e w1 ⟨rfl, hb1⟩
  have x1 := (HB.out.2.1.below hb1 HB.out.2.1.lt).cell 1
  have y1 := (HB.out.2.2.below hb1 HB.out.2.2.lt).cell 1
  simp only [List.getElem?_toArray, List.getElem?_cons_succ, List.getElem?_cons_zero] at x1 y1
  have H1 := Lib.hid (HB.out.1.trans (hb1.mono HB.out.1.size))
  clear hb1 x0 y0
  go_wp2_with fail
  refine (HS2.out w1 H1.out).mono ?_
  rintro e w2 ⟨rfl, hb2⟩
  have H2 := Lib.hid (H1.out.trans (hb2.mono H1.out.size))
  clear hb2
  go_wp2_with fail
  go_ret
  exact ⟨rfl, H2.out⟩
end Go.Proofs.YtjcbjocgachpjaaGreatDoor
