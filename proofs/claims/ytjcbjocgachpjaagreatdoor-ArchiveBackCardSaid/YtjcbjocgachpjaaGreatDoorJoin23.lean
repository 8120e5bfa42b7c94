/- Several texts, joined for the limit of sixty files; each one opens with its own comment. -/
import Derived.Test.YtjcbjocgachpjaaGreatDoorJoin3
import Derived.Test.YtjcbjocgachpjaaGreatDoorJoin10
import Derived.Test.YtjcbjocgachpjaaGreatDoorJoin22
import Derived.Laws.EntriesVeiled
import Derived.Test.YtjcbjocgachpjaaGreatDoorJoin1
import Derived.Test.YtjcbjocgachpjaaGreatDoorChecked
import Derived.Test.YtjcbjocgachpjaaGreatDoorJoin14
import Derived.Test.YtjcbjocgachpjaaGreatDoorJoin9
import Derived.Test.YtjcbjocgachpjaaGreatDoorJoin21
import Derived.Test.YtjcbjocgachpjaaGreatDoorJoin18
import Derived.Test.YtjcbjocgachpjaaGreatDoorJoin17
/- A slice whose block holds a row of a type. -/
set_option linter.unusedVariables false
set_option linter.unusedSimpArgs false
namespace Go.Proofs.YtjcbjocgachpjaaGreatDoor
open Go Go.RowKit
open Sw
/-- a slice's block, if it has one, holds a row of te -/
def RowIn (W : World) (te : TypeId) (v : Value) : Prop := ∀ g, v.ownBlock = some g → ∃ cs, Blk W g te cs
theorem RowIn.of_own {w : World} {base : Nat} {e : TypeId} {size n : Nat} {v : Value} {xs : List Value} (h : w.ownsRow base e size v n xs) : RowIn w e v := by
  intro g hg
  rcases h.2 with ⟨rfl, _⟩ | ⟨g', cap, cur, rfl, _, hh, _⟩
  · cases hg
  · cases hg
    exact ⟨_, hh⟩
theorem RowIn.below {W W' : World} {te : TypeId} {v : Value} (h : RowIn W te v) (hb : Below W.heap.size W W') : RowIn W' te v := fun g hg => by
  obtain ⟨cs, hc⟩ := h g hg
  exact ⟨cs, hc.below hb hc.lt⟩
theorem RowIn.lt {W : World} {te : TypeId} {v : Value} (h : RowIn W te v) : ∀ g, v.ownBlock = some g → g < W.heap.size := fun g hg => by
  obtain ⟨cs, hc⟩ := h g hg
  exact hc.lt
end Go.Proofs.YtjcbjocgachpjaaGreatDoor
/- sorted.Join over string, swingle/api.Print: the call. -/
set_option linter.unusedVariables false
set_option linter.unusedSimpArgs false
namespace Go.Proofs.YtjcbjocgachpjaaGreatDoor
open Go Go.RowKit Go.Shelf
open Sw
/-- an iterator over two maps side by side -/
def JoinOwnSP (xs ys : List (ByteArray × Pr)) (w : World) (e : Ending) (w' : World) : Prop :=
  ∃ b1 b2 b3 v1 v2, e = .returned (.func (.func 43) #[] #[.pointer (some ⟨b1, 0, none⟩), .pointer (some ⟨b2, 0, none⟩), .pointer (some ⟨b3, 0, none⟩)]) ∧
    Blk w' b1 94 #[v1] ∧ Blk w' b2 94 #[v2] ∧ Blk w' b3 90 #[ordFSP] ∧ Lies w' 100 6 eCSP v1 xs ∧ Lies w' 100 6 eCSP v2 ys ∧
    RowIn w' 100 v1 ∧ RowIn w' 100 v2 ∧ Below w.heap.size w w'
set_option maxRecDepth 100000 in
set_option maxHeartbeats 2000000 in
theorem joinOwnSP_any (w : World) (ba bb : Nat) (xs ys : List (ByteArray × Pr)) (h1 : SMapSP w ba xs) (h2 : SMapSP w bb ys) :
    Calls Tryz.prog 19 #[.pointer (some ⟨ba, 0, none⟩), .pointer (some ⟨bb, 0, none⟩)] w (JoinOwnSP xs ys w) := by
  have hnf : ∀ W, (binOp .eql 90 ordFSP Value.nilFunc).run Tryz.prog W = .ok (.bool false) W := fun W => by kernel_rfl
  have HR1 := Lib.hid (srtRowsSP_any w ba xs h1)
  go_enter Tryz.func19, Tryz.ntmps19
  go_wp2_with fail
  refine HR1.out.mono ?_
  rintro e w1 ⟨v1, rfl, ho1, m1, hw1⟩
  have hb1 : Below w.heap.size w w1 := by rw [hw1]; exact below_drewN (Below.refl _ _) m1
  have hL1 := (Lies.of_own ho1 eCSP_len (by decide)).below hb1
  have hlt1 := (RowIn.of_own ho1).below hb1
  obtain ⟨A1, c1, rfl, _, _, _⟩ := SlV_of_any ho1
  clear hw1 m1 ho1
  have hb2 : Below w.heap.size w ((w1.alloc (.cells #[.slice A1 xs.length c1] 94)).alloc (.cells #[ordFSP] 90)) := (hb1.alloc hb1.size _).alloc (Nat.le_trans hb1.size (by simp)) _
  have hbb : Below w1.heap.size w1 ((w1.alloc (.cells #[.slice A1 xs.length c1] 94)).alloc (.cells #[ordFSP] 90)) := ((Below.refl _ _).alloc (Nat.le_refl _) _).alloc (by simp) _
  have hB1 := blk_fst w1 #[.slice A1 xs.length c1] 94 (.cells #[ordFSP] 90)
  have hB3 := blk_snd w1 (.cells #[.slice A1 xs.length c1] 94) #[ordFSP] 90
  have HR2 := Lib.hid (srtRowsSP_any _ bb ys (h2.below hb2))
  have H1 := Lib.hid (And.intro hB1 (And.intro hB3 (And.intro (hL1.below hbb) (And.intro (hlt1.below hbb) hb2)))); clear hB1 hB3 hL1 hlt1 hb2 hbb hb1 HR1 h1 h2
  go_wp2_with fail
  refine HR2.out.mono ?_
  rintro e w2 ⟨v2, rfl, ho2, m2, hw2⟩
  obtain ⟨w3, hw3⟩ : ∃ w3, (w1.alloc (.cells #[.slice A1 xs.length c1] 94)).alloc (.cells #[ordFSP] 90) = w3 := ⟨_, rfl⟩
  rw [hw3] at H1 ho2 hw2
  obtain ⟨T, hT⟩ : ∃ T, w1.heap.size = T := ⟨_, rfl⟩
  rw [hT] at H1
  have hz3 : w3.heap.size = T + 1 + 1 := by rw [← hw3]; simp [hT]
  have hb2 : Below w3.heap.size w3 w2 := by rw [hw2]; exact below_drewN (Below.refl _ _) m2
  have hL2 := (Lies.of_own ho2 eCSP_len (by decide)).below hb2
  have hlt2 := (RowIn.of_own ho2).below hb2
  obtain ⟨A2, c2, rfl, _, _, _⟩ := SlV_of_any ho2
  have hB1 := H1.out.1.below hb2 H1.out.1.lt
  have hB3 := H1.out.2.1.below hb2 H1.out.2.1.lt
  have hL1 := H1.out.2.2.1.below hb2
  have hlt1 := H1.out.2.2.2.1.below hb2
  have hbw := H1.out.2.2.2.2.trans (hb2.mono H1.out.2.2.2.2.size)
  clear hw2 m2 ho2 hw3
  have hba := (Below.refl w2.heap.size w2).alloc (Nat.le_refl _) (.cells #[.slice A2 ys.length c2] 94)
  have hpst : JoinOwnSP xs ys w (.returned (.func (.func 43) #[] #[.pointer (some ⟨T, 0, none⟩), .pointer (some ⟨w2.heap.size, 0, none⟩), .pointer (some ⟨T + 1, 0, none⟩)])) (w2.alloc (.cells #[.slice A2 ys.length c2] 94)) :=
    ⟨T, w2.heap.size, T + 1, .slice A1 xs.length c1, .slice A2 ys.length c2, rfl, hB1.below hba hB1.lt, Blk.new _ _ _, hB3.below hba hB3.lt, hL1.below hba, hL2.below hba, hlt1.below hba, hlt2.below hba, hbw.trans (hba.mono hbw.size)⟩
  have c3 := (hB3.below hba hB3.lt).cell 0
  simp at c3
  have HF := Lib.hid hpst
  clear hpst hB1 hB3 hL1 hL2 hlt1 hlt2 hbw hba hb2 HR2 H1
  go_wp2_with fail
  go_ret
  exact HF.out
end Go.Proofs.YtjcbjocgachpjaaGreatDoor
/- The reference's Dec: a number's decimal digits. -/
set_option linter.unusedVariables false
set_option linter.unusedSimpArgs false
namespace Sw
def digB (m : Nat) : UInt8 := UInt8.ofNat (48 + m % 10)
def decG : Nat → Nat → List UInt8 → List UInt8
  | 0, _, s => s
  | f + 1, m, s => if m = 0 then s else decG f (m / 10) (digB m :: s)
/-- a number's digits -/
def decL (n : Nat) : List UInt8 := decG 20 (n / 10) [digB n]
def decS (n : Nat) : ByteArray := ⟨(decL n).toArray⟩
end Sw
namespace Go.Proofs.YtjcbjocgachpjaaGreatDoor
open Go Go.RowKit
open Sw
end Go.Proofs.YtjcbjocgachpjaaGreatDoor
/- Plain laws of TreeFull: paths 'n0', 'n1', ..: a tree of them. -/
set_option linter.unusedVariables false
set_option linter.unusedSimpArgs false
namespace Sw
open Go
open Go.Proofs.YtjcbjocgachpjaaGreatDoor (partsS)
section
variable {κ ν : Type} {c : κ → κ → Int}
theorem get_of_mem (hO : Ord3 c) {k : κ} {v : ν} : ∀ {l : List (κ × ν)}, Up c l → (k, v) ∈ l → getN c k l = some v ∧ inN c k l = true
  | [], _, h => by cases h
  | e :: l, hu, h => by
    rcases List.mem_cons.1 h with rfl | h
    · have h0 : c ((k, v) : κ × ν).1 k = 0 := hO.self k
      unfold getN inN
      rw [if_neg (by omega), if_pos h0, if_neg (by omega), decide_eq_true h0]
      exact ⟨rfl, rfl⟩
    · have h1 := hu.head _ h
      unfold getN inN
      rw [if_pos h1, if_pos h1]
      exact get_of_mem hO hu.tail h
theorem get_of_not (hO : Ord3 c) {k : κ} : ∀ {l : List (κ × ν)}, (∀ e ∈ l, e.1 ≠ k) → getN c k l = none ∧ inN c k l = false
  | [], _ => ⟨rfl, rfl⟩
  | e :: l, h => by
    have h1 := h e (List.mem_cons_self ..)
    have h2 : ¬ c e.1 k = 0 := fun e' => h1 (hO.zero _ _ e')
    unfold getN inN
    by_cases h3 : c e.1 k < 0
    · rw [if_pos h3, if_pos h3]
      exact get_of_not hO (fun e he => h e (List.mem_cons_of_mem _ he))
    · rw [if_neg h3, if_neg h2, if_neg h3, decide_eq_false h2]
      exact ⟨rfl, rfl⟩
end
/-- a directory -/
def dirN : Nd := ⟨2, 0, 0, ⟨#[]⟩⟩
def pathN (i : Nat) : ByteArray := ⟨#[110]⟩ ++ decS i
def valL (l : List UInt8) : Nat := l.foldl (fun a x => 10 * a + (x.toNat - 48)) 0
theorem path_all : (List.range 510).all (fun i => decide ((partsS (pathN i)).length = 1) && decide (valL (decL i) = i) && decide ((pathN i).size ≤ 10)) = true := by kernel_rfl
theorem path_one {i : Nat} (h : i < 510) : (partsS (pathN i)).length = 1 ∧ valL (decL i) = i ∧ (pathN i).size ≤ 10 := by
  have := List.all_eq_true.1 path_all i (List.mem_range.2 h)
  simp only [Bool.and_eq_true, decide_eq_true_eq] at this
  exact ⟨this.1.1, this.1.2, this.2⟩
theorem one_right {p : ByteArray} (h : (partsS p).length = 1) : rightL p.data.toList = true ∧ parentS p = ⟨#[]⟩ ∧ upsS p = [] := by
  refine ⟨?_, ?_, ?_⟩
  · cases hr : rightL p.data.toList with
    | true => rfl
    | false => rw [partsS_not hr] at h; cases h
  · unfold parentS
    have : (partsS p).dropLast = [] := List.length_eq_zero_iff.1 (by rw [List.length_dropLast]; omega)
    rw [this]
    rfl
  · unfold upsS
    rw [h]
    rfl
theorem path_inj {i j : Nat} (hi : i < 510) (hj : j < 510) (h : pathN i = pathN j) : i = j := by
  have h1 := congrArg (fun s : ByteArray => s.data.toList) h
  unfold pathN decS at h1
  simp at h1
  rw [← (path_one hi).2.1, ← (path_one hj).2.1, h1]
/-- all of a tree's paths have one part -/
def Flat (xs : List NE) : Prop := ∀ e ∈ xs, (partsS e.1).length = 1
theorem flat_holds {xs : List NE} (h : Flat xs) (p : ByteArray) : holdsT xs p = false := by
  unfold holdsT
  cases hf : (xs.drop (lbN ordS p xs)).find? (fun e => !decide (e.1 = p)) with
  | none => rfl
  | some e =>
    have := List.mem_of_find?_eq_some hf
    show inS (upsS e.1) p = false
    rw [(one_right (h e (List.mem_of_mem_drop this))).2.2]
    rfl
theorem Flat.put {xs : List NE} (h : Flat xs) {p : ByteArray} (hp : (partsS p).length = 1) (n : Nd) : Flat (putN ordS p n xs) := fun e he => by
  rcases put_mem p n xs e he with rfl | he
  · exact hp
  · exact h e he
theorem Flat.drop {xs : List NE} (h : Flat xs) (p : ByteArray) : Flat (dropN ordS p xs) := fun e he => h e (drop_mem p xs e he)
/-- a path of one part: may a node be put there? -/
theorem may_one {xs : List NE} {p : ByteArray} {n : Nd} (hf : Flat xs) (hp : (partsS p).length = 1) (h0 : ¬ n.kind = 0) (hr : nodeR n = 0) : mayT xs p n = if (getT xs p).kind = 0 ∧ 500 ≤ xs.length then 4 else 0 := by
  obtain ⟨h1, h2, _⟩ := one_right hp
  unfold mayT parentT
  rw [flat_holds hf]
  simp [h1, h2, h0, hr]
theorem drop_one {xs : List NE} {p : ByteArray} (hf : Flat xs) (hk : ¬ (getT xs p).kind = 0) : whyDrop xs p = 0 := by
  unfold whyDrop
  rw [if_neg hk, flat_holds hf]
  simp
theorem dirR : nodeR dirN = 0 := by kernel_rfl
/-- the tree behind i puts -/
structure FullAt (i : Nat) (xs : List NE) : Prop where
  up : Up ordS xs
  len : xs.length = min i 500
  mem : ∀ e, e ∈ xs ↔ ∃ j, j < min i 500 ∧ e = (pathN j, dirN)
theorem FullAt.zero : FullAt 0 [] := ⟨List.Pairwise.nil, rfl, fun e => ⟨(fun h => by cases h), (fun ⟨j, h, _⟩ => by omega)⟩⟩
theorem FullAt.flat {i : Nat} {xs : List NE} (h : FullAt i xs) : Flat xs := fun e he => by
  obtain ⟨j, hj, rfl⟩ := (h.mem e).1 he
  exact (path_one (by omega)).1
theorem FullAt.not {i : Nat} {xs : List NE} (h : FullAt i xs) (hi : i < 510) {k : Nat} (hk : k < 510) (hki : min i 500 ≤ k) : getN ordS (pathN k) xs = none ∧ inN ordS (pathN k) xs = false :=
  get_of_not ordS_ord fun e he hq => by
    obtain ⟨j, hj, rfl⟩ := (h.mem e).1 he
    have := path_inj (by omega) hk hq
    omega
theorem FullAt.may {i : Nat} {xs : List NE} (h : FullAt i xs) (hi : i < 510) : mayT xs (pathN i) dirN = if i < 500 then 0 else 4 := by
  rw [may_one h.flat (path_one hi).1 (by decide) dirR]
  have hg : getT xs (pathN i) = ndZ := by unfold getT; rw [(h.not hi hi (by omega)).1]; rfl
  rw [hg, h.len]
  by_cases hlt : i < 500
  · rw [if_pos hlt, if_neg (by omega)]
  · rw [if_neg hlt, if_pos ⟨rfl, by omega⟩]
end Sw
/- Two rows of marks joined, path by path. -/
set_option linter.unusedVariables false
set_option linter.unusedSimpArgs false
namespace Sw
open Go
theorem getN_skipP {a : MkE} {x : List MkE} {p : ByteArray} (hu : Up ordS (a :: x)) (hp : ¬ a.1 = p) : getN ordS p (a :: x) = getN ordS p x := by
  have hux : Up ordS x := hu.tail
  rcases Classical.em (∃ e ∈ x, e.1 = p) with ⟨⟨q, v⟩, he, rfl⟩ | hn
  · rw [(get_of_mem ordS_ord hux he).1, (get_of_mem ordS_ord hu (List.mem_cons_of_mem _ he)).1]
  · rw [(get_of_not ordS_ord (fun e he h => hn ⟨e, he, h⟩)).1, (get_of_not ordS_ord (fun e he h => by
      rcases List.mem_cons.1 he with rfl | he
      · exact hp h
      · exact hn ⟨e, he, h⟩)).1]
theorem up_ltP {a : MkE} {x : List MkE} (hu : Up ordS (a :: x)) {e : MkE} (he : e ∈ x) : ordS a.1 e.1 < 0 := (List.pairwise_cons.1 hu).1 e he
theorem lt_neP {p q : ByteArray} (h : ordS p q < 0) : ¬ p = q := fun e => by subst e; rw [ordS_refl] at h; omega
theorem lt_trans3P {p q s : ByteArray} (h1 : ordS p q < 0) (h2 : ordS q s < 0) : ordS p s < 0 := ordS_ord.trans _ _ _ h1 h2
theorem up_allP {b : MkE} {y : List MkE} (hu : Up ordS (b :: y)) {p : ByteArray} (h : ordS p b.1 < 0) : ∀ e ∈ b :: y, ordS p e.1 < 0 := fun e he => by
  rcases List.mem_cons.1 he with rfl | he
  · exact h
  · exact lt_trans3P h (up_ltP hu he)
abbrev JnEP := ByteArray × Option Pr × Option Pr
def JnOkP (x y : List MkE) (J : List JnEP) : Prop := (∀ t ∈ J, t.2.1 = getN ordS t.1 x ∧ t.2.2 = getN ordS t.1 y) ∧ Rise (J.map Prod.fst) ∧ ∀ p, p ∈ J.map Prod.fst ↔ p ∈ x.map Prod.fst ∨ p ∈ y.map Prod.fst
theorem mem_keysP {x : List MkE} {p : ByteArray} : p ∈ x.map Prod.fst ↔ ∃ e ∈ x, e.1 = p := List.mem_map
theorem join_okP : ∀ (N : Nat) (x y : List MkE), x.length + y.length ≤ N → Up ordS x → Up ordS y → JnOkP x y (joinL ordS x y)
  | N, x, y, hN, hx, hy => by
    by_cases h0 : 0 < x.length + y.length
    · cases N with
      | zero => omega
      | succ N =>
        rcases join_cases (c := ordS) x y h0 with ⟨hs, a, x', rfl, e⟩ | ⟨hs, b, y', rfl, e⟩ | ⟨hs, a, x', b, y', rfl, rfl, e⟩
        · have hlt : ∀ e ∈ y, ordS a.1 e.1 < 0 := by
            cases y with
            | nil => intro e he; cases he
            | cons b y => exact up_allP hy hs
          obtain ⟨i1, i2, i3⟩ := join_okP N x' y (by simp only [List.length_cons] at hN; omega) hx.tail hy
          have hkey : ∀ p ∈ (joinL ordS x' y).map Prod.fst, ordS a.1 p < 0 := fun p hp => by
            rcases (i3 p).1 hp with h | h
            · obtain ⟨e, he, rfl⟩ := mem_keysP.1 h; exact up_ltP hx he
            · obtain ⟨e, he, rfl⟩ := mem_keysP.1 h; exact hlt e he
          rw [e]
          refine ⟨fun t ht => ?_, ?_, fun p => ?_⟩
          · rcases List.mem_cons.1 ht with rfl | ht
            · exact ⟨(get_of_mem ordS_ord hx (List.mem_cons_self ..)).1.symm, (get_of_not ordS_ord (fun e he h => lt_neP (hlt e he) h.symm)).1.symm⟩
            · have h1 := i1 t ht
              have h2 := hkey t.1 (List.mem_map.2 ⟨t, ht, rfl⟩)
              exact ⟨h1.1.trans (getN_skipP hx (lt_neP h2)).symm, h1.2⟩
          · exact List.pairwise_cons.2 ⟨hkey, i2⟩
          · rw [List.map_cons, List.map_cons, List.mem_cons, List.mem_cons, i3 p, or_assoc]
        · have hlt : ∀ e ∈ x, ordS b.1 e.1 < 0 := by
            cases x with
            | nil => intro e he; cases he
            | cons a x =>
              have : ordS b.1 a.1 < 0 := by have h1 : 0 < ordS a.1 b.1 := hs; have := ordS_neg a.1 b.1; omega
              exact up_allP hx this
          obtain ⟨i1, i2, i3⟩ := join_okP N x y' (by simp only [List.length_cons] at hN; omega) hx hy.tail
          have hkey : ∀ p ∈ (joinL ordS x y').map Prod.fst, ordS b.1 p < 0 := fun p hp => by
            rcases (i3 p).1 hp with h | h
            · obtain ⟨e, he, rfl⟩ := mem_keysP.1 h; exact hlt e he
            · obtain ⟨e, he, rfl⟩ := mem_keysP.1 h; exact up_ltP hy he
          rw [e]
          refine ⟨fun t ht => ?_, ?_, fun p => ?_⟩
          · rcases List.mem_cons.1 ht with rfl | ht
            · exact ⟨(get_of_not ordS_ord (fun e he h => lt_neP (hlt e he) h.symm)).1.symm, (get_of_mem ordS_ord hy (List.mem_cons_self ..)).1.symm⟩
            · have h1 := i1 t ht
              have h2 := hkey t.1 (List.mem_map.2 ⟨t, ht, rfl⟩)
              exact ⟨h1.1, h1.2.trans (getN_skipP hy (lt_neP h2)).symm⟩
          · exact List.pairwise_cons.2 ⟨hkey, i2⟩
          · rw [List.map_cons, List.map_cons, List.mem_cons, List.mem_cons, i3 p]
            exact or_left_comm
        · have hab : a.1 = b.1 := ordS_zero hs
          obtain ⟨i1, i2, i3⟩ := join_okP N x' y' (by simp only [List.length_cons] at hN; omega) hx.tail hy.tail
          have hkey : ∀ p ∈ (joinL ordS x' y').map Prod.fst, ordS b.1 p < 0 := fun p hp => by
            rcases (i3 p).1 hp with h | h
            · obtain ⟨e, he, rfl⟩ := mem_keysP.1 h; rw [← hab]; exact up_ltP hx he
            · obtain ⟨e, he, rfl⟩ := mem_keysP.1 h; exact up_ltP hy he
          rw [e]
          refine ⟨fun t ht => ?_, ?_, fun p => ?_⟩
          · rcases List.mem_cons.1 ht with rfl | ht
            · refine ⟨?_, (get_of_mem ordS_ord hy (List.mem_cons_self ..)).1.symm⟩
              show some a.2 = getN ordS b.1 (a :: x')
              rw [← hab]
              exact (get_of_mem ordS_ord hx (List.mem_cons_self ..)).1.symm
            · have h1 := i1 t ht
              have h2 := hkey t.1 (List.mem_map.2 ⟨t, ht, rfl⟩)
              exact ⟨h1.1.trans (getN_skipP hx (by rw [hab]; exact lt_neP h2)).symm, h1.2.trans (getN_skipP hy (lt_neP h2)).symm⟩
          · exact List.pairwise_cons.2 ⟨hkey, i2⟩
          · rw [List.map_cons, List.map_cons, List.map_cons, List.mem_cons, List.mem_cons, List.mem_cons, i3 p, hab]
            constructor
            · rintro (h | h | h)
              · exact .inl (.inl h)
              · exact .inl (.inr h)
              · exact .inr (.inr h)
            · rintro ((h | h) | (h | h))
              · exact .inl h
              · exact .inr (.inl h)
              · exact .inl h
              · exact .inr (.inr h)
    · obtain rfl : x = [] := List.length_eq_zero_iff.1 (by omega)
      obtain rfl : y = [] := List.length_eq_zero_iff.1 (by omega)
      rw [joinL_nil]
      exact ⟨fun t ht => (by cases ht), List.Pairwise.nil, fun p => by simp⟩
/-- the join, path by path -/
theorem join_pathsP {xs ys : List MkE} (hx : Up ordS xs) (hy : Up ordS ys) : joinL ordS xs ys = (pathsS (xs.map Prod.fst ++ ys.map Prod.fst)).map fun p => (p, getN ordS p xs, getN ordS p ys) := by
  obtain ⟨h1, h2, h3⟩ := join_okP _ xs ys (Nat.le_refl _) hx hy
  have hk : (joinL ordS xs ys).map Prod.fst = pathsS (xs.map Prod.fst ++ ys.map Prod.fst) := rise_ext h2 (pathsS_rise _) (fun q => by rw [h3 q, pathsS_mem, List.mem_append])
  rw [← hk, List.map_map]
  conv => lhs; rw [← List.map_id (joinL ordS xs ys)]
  refine List.map_congr_left fun t ht => ?_
  obtain ⟨p, a, b⟩ := t
  have := h1 _ ht
  simp only at this
  simp only [id, Function.comp, ← this.1, ← this.2]
end Sw
/- archive.Of: the marks on which two trees agree. -/
set_option linter.unusedVariables false
set_option linter.unusedSimpArgs false
namespace Sw
open Go
/-- what a word of the join gives -/
def agOf (t : JnEP) : Option MkE := if t.2.1.isSome = true ∧ t.2.2.isSome = true ∧ t.2.1.getD ⟨0, 0, 0, 0, 0⟩ = t.2.2.getD ⟨0, 0, 0, 0, 0⟩ then some (t.1, t.2.1.getD ⟨0, 0, 0, 0, 0⟩) else none
/-- the marks of one row that the other one has -/
def agreeM (L M : List MkE) : List MkE := L.filter fun m => decide (findM M m.1 = some m.2)
theorem getN_findM {L : List MkE} (h : Up ordS L) (p : ByteArray) : getN ordS p L = findM L p := by
  rw [get_find ordS_ord p L h]
  unfold findM
  congr 2
  funext e
  simp [ordS_ord.iff]
theorem findM_mem {L : List MkE} {p : ByteArray} {a : Pr} (h : findM L p = some a) : (p, a) ∈ L := by
  unfold findM at h
  rw [Option.map_eq_some_iff] at h
  obtain ⟨⟨q, b⟩, h1, h2⟩ := h
  have h3 := List.mem_of_find?_eq_some h1
  have h4 := List.find?_some h1
  simp only [decide_eq_true_eq] at h4
  simp only at h2 h4
  rw [h4, h2] at h3
  exact h3
theorem fm_up {g : ByteArray → Option MkE} (hg : ∀ p e, g p = some e → e.1 = p) : ∀ {P : List ByteArray}, Rise P → Up ordS (P.filterMap g)
  | [], _ => List.Pairwise.nil
  | p :: r, h => by
    have hr := List.pairwise_cons.1 h
    have ih := fm_up hg hr.2
    rw [List.filterMap_cons]
    cases hp : g p with
    | none => exact ih
    | some e =>
      refine List.pairwise_cons.2 ⟨fun e' he' => ?_, ih⟩
      obtain ⟨q, hq, hq2⟩ := List.mem_filterMap.1 he'
      rw [hg p e hp, hg q e' hq2]
      exact hr.1 q hq
theorem ag_join {L M : List MkE} (hL : Up ordS L) (hM : Up ordS M) : (joinL ordS L M).filterMap agOf = agreeM L M := by
  rw [join_pathsP hL hM, List.filterMap_map]
  refine up_ext ordS_ord _ _ (fm_up (fun p e h => ?_) (pathsS_rise _)) (by unfold agreeM; exact List.Pairwise.filter _ hL) (fun e => ?_)
  · simp only [Function.comp, agOf] at h
    split at h
    · cases h; rfl
    · cases h
  · rw [List.mem_filterMap]
    unfold agreeM
    rw [List.mem_filter, decide_eq_true_eq]
    constructor
    · rintro ⟨p, _, h⟩
      simp only [Function.comp, agOf] at h
      split at h
      · rename_i hc
        cases h
        obtain ⟨h1, h2, h3⟩ := hc
        rw [getN_findM hL] at h1 h3 ⊢
        rw [getN_findM hM] at h2 h3
        obtain ⟨a, ha⟩ := Option.isSome_iff_exists.1 h1
        obtain ⟨b, hb⟩ := Option.isSome_iff_exists.1 h2
        rw [ha, hb] at h3
        rw [ha]
        simp only [Option.getD_some] at h3 ⊢
        exact ⟨findM_mem ha, by rw [hb, h3]⟩
      · cases h
    · rintro ⟨h1, h2⟩
      refine ⟨e.1, (pathsS_mem _ _).2 (List.mem_append_left _ (List.mem_map.2 ⟨e, h1, rfl⟩)), ?_⟩
      have h3 := findM_up hL h1
      simp only [Function.comp, agOf, getN_findM hL, getN_findM hM, h2, h3]
      simp
end Sw
namespace Go.Proofs.YtjcbjocgachpjaaGreatDoor
open Go Go.RowKit Go.Shelf
open Sw
attribute [local go_sem] Oper.semAt_some
/-- behind some words of the join -/
structure AoI (T b1 b2 b3 : Nat) (v1 v2 : Value) (pre : List JnEP) (V : World) : Prop where
  o : ∃ o, Blk V T 29 #[o] ∧ OwnMk V T o (pre.filterMap agOf)
  b1 : Blk V b1 94 #[v1]
  b2 : Blk V b2 94 #[v2]
  b3 : Blk V b3 90 #[ordFSP]
  r1 : RowIn V 100 v1
  r2 : RowIn V 100 v2
theorem RowIn.ownP {W W' : World} {row : Option Nat} {te : TypeId} {v : Value} (h : RowIn W te v) (hg : W.grownBy W' row) (hr : ∀ r, row = some r → ∃ o : Obj, W.heap[r]? = some o ∧ o.isCells = false) : RowIn W' te v := fun g hv => by
  obtain ⟨cs, hc⟩ := h g hv
  exact ⟨cs, blk_ownF hc hg hr⟩
theorem AoI.own (T b1 b2 b3 : Nat) (v1 v2 : Value) : Own (AoI T b1 b2 b3 v1 v2) := fun _ A B row h hg hr => ⟨by obtain ⟨o, h1, h2⟩ := h.o; exact ⟨o, blk_ownF h1 hg hr, own_ownF h2 hg hr⟩, blk_ownF h.b1 hg hr, blk_ownF h.b2 hg hr, blk_ownF h.b3 hg hr, h.r1.ownP hg hr, h.r2.ownP hg hr⟩
theorem AoI.below {T b1 b2 b3 : Nat} {v1 v2 : Value} {pre : List JnEP} {A B : World} (h : AoI T b1 b2 b3 v1 v2 pre A) (hb : Below A.heap.size A B) : AoI T b1 b2 b3 v1 v2 pre B := ⟨by obtain ⟨o, h1, h2⟩ := h.o; exact ⟨o, h1.below hb h1.lt, h2.below hb⟩, h.b1.below hb h.b1.lt, h.b2.below hb h.b2.lt, h.b3.below hb h.b3.lt, h.r1.below hb, h.r2.below hb⟩
theorem AoI.keep {T b1 b2 b3 : Nat} {v1 v2 : Value} {pre : List JnEP} {A B : World} (h : AoI T b1 b2 b3 v1 v2 pre A) (hb : Below A.heap.size A B) : KeepP (JoinK b1 b2 b3 v1 v2) A B := ⟨hb.size, fun g hg => hb.block g (by
  rcases hg with rfl | rfl | rfl | hg | hg
  · exact h.b1.lt
  · exact h.b2.lt
  · exact h.b3.lt
  · exact h.r1.lt g hg
  · exact h.r2.lt g hg)⟩
theorem fmA_one (pre : List JnEP) (x : JnEP) : (pre ++ [x]).filterMap agOf = pre.filterMap agOf ++ (agOf x).toList := by
  rw [List.filterMap_append]
  cases h : agOf x with
  | none => simp [h]
  | some c => simp [h]
set_option maxRecDepth 100000 in
set_option maxHeartbeats 8000000 in
theorem archOf_any (w : World) (bt bmt bt2 bmt2 : Nat) (xs ys : List NE) (hT : TreeAt w bt bmt xs) (hT2 : TreeAt w bt2 bmt2 ys) (hxl : xs.length ≤ 1000) (hyl : ys.length ≤ 1000) (hxd : ∀ e ∈ xs, e.2.data.size ≤ maxLen) (hyd : ∀ e ∈ ys, e.2.data.size ≤ maxLen) :
    Calls Tryz.prog 8 #[.pointer (some ⟨bt, 0, none⟩), .pointer (some ⟨bt2, 0, none⟩)] w fun e w' => ∃ r, e = .returned r ∧ OwnMk w' w.heap.size r (agreeM (marksT xs) (marksT ys)) ∧ Below w.heap.size w w' := by
  have hup1 := marksT_up hT.map.up
  have hup2 := marksT_up hT2.map.up
  have haj := ag_join hup1 hup2
  have hxp : ∀ e ∈ xs, e.1.size ≤ 90000 := fun e he => hT.ok (n := e.2) he
  have hyp : ∀ e ∈ ys, e.1.size ≤ 90000 := fun e he => hT2.ok (n := e.2) he
  have b0 := Blk.new w 29 #[.slice none 0 0]
  have hB : Below w.heap.size w (w.alloc (.cells #[.slice none 0 0] 29)) := (Below.refl _ w).alloc (Nat.le_refl _) _
  have HM1 := Lib.hid (marks_any _ bt bmt xs (hT.below hB) hxl hxp hxd)
  have HM2 := Lib.hid (fun W (h : TreeAt W bt2 bmt2 ys) => marks_any W bt2 bmt2 ys h hyl hyp hyd)
  have hT2B := hT2.below hB
  have hml1 : (marksT xs).length ≤ 1000 := by unfold marksT; rw [List.length_map]; exact hxl
  have hml2 : (marksT ys).length ≤ 1000 := by unfold marksT; rw [List.length_map]; exact hyl
  have hmp1 : ∀ e ∈ marksT xs, okS e.1 := fun e he => by obtain ⟨x, hx, rfl⟩ := List.mem_map.1 he; exact hxp x hx
  have hmp2 : ∀ e ∈ marksT ys, okS e.1 := fun e he => by obtain ⟨x, hx, rfl⟩ := List.mem_map.1 he; exact hyp x hx
  have HX := Lib.hid (And.intro hml1 (And.intro hml2 (And.intro hmp1 hmp2)))
  have HAJ := Lib.hid haj
  clear hT hT2 hxl hyl hxp hyp hxd hyd hml1 hml2 hmp1 hmp2 haj hup1 hup2
  generalize agreeM (marksT xs) (marksT ys) = ANS at *
  generalize marksT xs = L1 at *
  generalize marksT ys = L2 at *
  refine callsIn_wide.1 (?_ : CallsIn Fence.wide 9 _ _ _ _ _)
  refine callsIn_of_wp_marks Tryz.func8 rfl trivial ?_ rfl
  simp only [Tryz.ntmps8, List.size_toArray, List.length_cons, List.length_nil, Nat.reduceAdd, Nat.reduceSub, Array.replicate_succ, Array.replicate_zero, List.push_toArray, List.append_toArray, List.nil_append, List.cons_append]
  obtain ⟨w1, hw1⟩ : ∃ w1, w.alloc (.cells #[.slice none 0 0] 29) = w1 := ⟨_, rfl⟩
  rw [hw1] at b0 hB HM1 hT2B
  have H0 := Lib.hid (And.intro b0 (And.intro hB hT2B)); clear b0 hB hT2B
  have HW1 := Lib.hid hw1
  clear hw1
  gi_wp2
  rw [HW1.out]
  refine ⟨trivial, (callsIn_wide.2 HM1.out).mono ?_⟩
  rintro e w2 ⟨m1, rfl, hm1, -, hb2⟩
  have H2 := Lib.hid (And.intro (H0.out.1.below hb2 H0.out.1.lt) (And.intro (H0.out.2.1.trans (hb2.mono H0.out.2.1.size)) (And.intro hm1 (H0.out.2.2.below hb2))))
  clear hb2 hm1 HM1 H0 HW1
  gi_wp2
  refine ⟨trivial, (callsIn_wide.2 (HM2.out w2 H2.out.2.2.2)).mono ?_⟩
  rintro e w3 ⟨m2, rfl, hm2, -, hb3⟩
  have H3 := Lib.hid (And.intro (H2.out.1.below hb3 H2.out.1.lt) (And.intro (H2.out.2.1.trans (hb3.mono H2.out.2.1.size)) (And.intro (H2.out.2.2.1.below hb3) hm2)))
  clear hb3 hm2 HM2 H2
  gi_wp2
  refine ⟨trivial, (callsIn_wide.2 (joinOwnSP_any w3 m1 m2 L1 L2 H3.out.2.2.1 H3.out.2.2.2)).mono ?_⟩
  rintro e w4 ⟨b1, b2, b3, v1, v2, rfl, B1, B2, B3, L1', L2', R1, R2, hb4⟩
  have hB0 := H3.out.1.below hb4 H3.out.1.lt
  have hBw := H3.out.2.1.trans (hb4.mono H3.out.2.1.size)
  obtain ⟨T, hTe⟩ : ∃ T, T = w.heap.size := ⟨_, rfl⟩
  rw [← hTe] at hB0 hBw ⊢
  have HTE := Lib.hid hTe; clear hTe
  have HT := Lib.hid (joinSP_tells 8 (by omega) b1 b2 b3 v1 v2 L1 L2 w4 B1 B2 B3 L1' L2' R1.lt R2.lt (by have := HX.out.1; omega) (by have := HX.out.2.1; omega) HX.out.2.2.1 HX.out.2.2.2)
  have hKK : ∀ g, JoinK b1 b2 b3 v1 v2 g → g < w4.heap.size := fun g hg => by
    rcases hg with rfl | rfl | rfl | h | h
    · exact B1.lt
    · exact B2.lt
    · exact B3.lt
    · exact R1.lt g h
    · exact R2.lt g h
  have HI0 := Lib.hid (show AoI T b1 b2 b3 v1 v2 [] w4 ∧ Below T w w4 from ⟨⟨⟨_, hB0, World.ownsRow_nil _ _ _ _⟩, B1, B2, B3, R1, R2⟩, hBw⟩)
  have hz4 : T < w4.heap.size := hB0.lt
  have hjl : (joinL ordS L1 L2).length ≤ 2000 := Nat.le_trans (joinL_len _ _) (by have := HX.out.1; have := HX.out.2.1; omega)
  clear hb4 hB0 hBw B1 B2 B3 L1' L2' R1 R2 H3
  gi_wp2
  refine wpIn_rangeFunc_tellW (Mine := fun _ => False) (fun _ h => h.elim) rfl (by omega) (gf := 43) (lb := #[.pointer (some ⟨b1, 0, none⟩), .pointer (some ⟨b2, 0, none⟩), .pointer (some ⟨b3, 0, none⟩)]) rfl trivial (enters_of Tryz.func43 (by kernel_rfl) rfl)
    HT.out KeepP.trans (fun W l o o' hl h _ _ => keepP_b hKK W l _ _ hl h (by assumption) (by assumption)) (Below.refl _ _) (fun _ => rfl)
    (fun pre W => AoI T b1 b2 b3 v1 v2 pre W ∧ Below T w W)
    (fun c pre W => False)
    (OwnM.of_none (OwnFrom.and (Own.from (AoI.own T b1 b2 b3 v1 v2) _) (ownFrom_below (by have := HTE.out; omega) (by omega))))
    (fun c => OwnM.of_none (fun _ _ _ _ hs _ _ => hs.elim))
    HI0.out
    ?a1 (fun x W => W.alloc (.cells (pCSP x.2) 59))
    (fun x n₀ pre W => (AoI T b1 b2 b3 v1 v2 pre W ∧ Below T w W) ∧ Blk W n₀ 59 (pCSP x.2)) (fun x n₀ => OwnM.of_none (OwnFrom.and (OwnFrom.and (Own.from (AoI.own T b1 b2 b3 v1 v2) _) (ownFrom_below (by have := HTE.out; omega) (by omega))) (Own.from (fun _ A B row hs hg hr => blk_ownF hs hg hr) _))) ?made ?assign ?body ?done ?stop
  case assign =>
    intro l x n0 W hn K hK
    simp only [pCSP]
    gi_wp2
    exact hK
  case made =>
    rintro pre x W ⟨hI, hB⟩ hTl
    have hba := (Below.refl W.heap.size W).alloc (Nat.le_refl _) (.cells (pCSP x.2) 59)
    obtain ⟨o, c0, _⟩ := hI.o
    exact ⟨⟨⟨hI.below hba, hB.alloc (Nat.le_of_lt c0.lt) _⟩, Blk.new _ _ _⟩, keeps_belowF hba, hI.keep hba⟩
  case body =>
    rintro l pre ⟨p, x, y⟩ n₀ W ⟨⟨hI, hB⟩, hX⟩ hTl
    have hpl : (pre.filterMap agOf).length + 1 ≤ 2001 := by
      obtain ⟨r, hr⟩ := hTl
      have h1 := congrArg List.length hr
      have h2 := List.length_filterMap_le agOf pre
      simp only [List.length_append, List.length_cons, List.length_nil] at h1
      omega
    have hfo := fmA_one pre (p, x, y)
    have hag : agOf (p, x, y) = if x.isSome = true ∧ y.isSome = true ∧ x.getD ⟨0, 0, 0, 0, 0⟩ = y.getD ⟨0, 0, 0, 0, 0⟩ then some (p, x.getD ⟨0, 0, 0, 0, 0⟩) else none := rfl
    rw [hag] at hfo
    clear hag hTl
    dsimp only [pCSP] at hX
    obtain ⟨a, ha⟩ : ∃ a, x.getD ⟨0, 0, 0, 0, 0⟩ = a := ⟨_, rfl⟩
    obtain ⟨b, hb⟩ : ∃ b, y.getD ⟨0, 0, 0, 0, 0⟩ = b := ⟨_, rfl⟩
    simp only [ha, hb] at hX hfo
    generalize x.isSome = xi at *
    generalize y.isSome = yi at *
    have hq := fun W => eq_print a b W
    obtain ⟨E, hE⟩ : ∃ E, decide (a = b) = E := ⟨_, rfl⟩
    simp only [hE] at hq
    obtain ⟨ak, am, at', az, au⟩ := a
    obtain ⟨ck, cm, ct, cz, cu⟩ := b
    simp only at hX
    simp only [Pr.c] at hq
    have z0 := hX.cell 0
    have z1 := hX.cell 1
    have z2 := hX.cell 2
    have z3 := hX.cell 3
    have z4 := hX.cell 4
    have z5 := hX.cell 5
    have z6 := hX.cell 6
    have z7 := hX.cell 7
    have z8 := hX.cell 8
    have z9 := hX.cell 9
    have z10 := hX.cell 10
    have z11 := hX.cell 11
    simp only [List.getElem?_toArray, List.getElem?_cons_succ, List.getElem?_cons_zero] at z0 z1 z2 z3 z4 z5 z6 z7 z8 z9 z10 z11
    have HF := Lib.hid hfo
    have HIB := Lib.hid (And.intro hI (And.intro hB hE))
    clear hX ha hb hfo hE hI hB
    cases xi with
    | false =>
      have hno : (pre ++ [((p, x, y) : JnEP)]).filterMap agOf = pre.filterMap agOf := by rw [HF.out, if_neg (fun h => by cases h.1)]; exact List.append_nil _
      have HNO := Lib.hid hno
      clear hno
      gi_wp2
      refine ⟨keeps_belowF (Below.refl _ W), HIB.out.1.keep (Below.refl _ W), ⟨?_, HIB.out.1.b1, HIB.out.1.b2, HIB.out.1.b3, HIB.out.1.r1, HIB.out.1.r2⟩, HIB.out.2.1⟩
      rw [HNO.out]
      exact HIB.out.1.o
    | true =>
      cases yi with
      | false =>
        have hno : (pre ++ [((p, x, y) : JnEP)]).filterMap agOf = pre.filterMap agOf := by rw [HF.out, if_neg (fun h => by cases h.2.1)]; exact List.append_nil _
        have HNO := Lib.hid hno
        clear hno
        gi_wp2
        refine ⟨keeps_belowF (Below.refl _ W), HIB.out.1.keep (Below.refl _ W), ⟨?_, HIB.out.1.b1, HIB.out.1.b2, HIB.out.1.b3, HIB.out.1.r1, HIB.out.1.r2⟩, HIB.out.2.1⟩
        rw [HNO.out]
        exact HIB.out.1.o
      | true =>
        cases E with
        | false =>
          have hno : (pre ++ [((p, x, y) : JnEP)]).filterMap agOf = pre.filterMap agOf := by rw [HF.out, if_neg (fun h => of_decide_eq_false HIB.out.2.2 h.2.2)]; exact List.append_nil _
          have HNO := Lib.hid hno
          clear hno
          gi_wp2
          refine ⟨keeps_belowF (Below.refl _ W), HIB.out.1.keep (Below.refl _ W), ⟨?_, HIB.out.1.b1, HIB.out.1.b2, HIB.out.1.b3, HIB.out.1.r1, HIB.out.1.r2⟩, HIB.out.2.1⟩
          rw [HNO.out]
          exact HIB.out.1.o
        | true =>
          obtain ⟨o, d1, ho⟩ := HIB.out.1.o
          have hyes : (pre ++ [((p, x, y) : JnEP)]).filterMap agOf = pre.filterMap agOf ++ [(p, ⟨ak, am, at', az, au⟩)] := by rw [HF.out, if_pos ⟨rfl, rfl, of_decide_eq_true HIB.out.2.2⟩]; rfl
          have HYES := Lib.hid hyes
          clear hyes
          generalize hn : pre.filterMap agOf = K at *
          obtain ⟨n, hn2⟩ : ∃ n, K.length = n := ⟨_, rfl⟩
          have HN := Lib.hid hn2
          have m1 := d1.cell 0
          have f1 := d1.frozen 0
          simp at m1
          unfold OwnMk at ho
          rw [hn2] at ho hpl
          obtain ⟨A3, c3, rfl, _, _, _⟩ := SlV_of_any ho
          have hTW := Nat.le_of_lt d1.lt
          have HH := Lib.hid (And.intro d1 ho)
          clear d1 ho hn hn2
          gi_wp2_with (gi_at_builtin; refine wpListIn_app rfl _ _ 29 rfl T 61 (.agg #[.string ⟨#[]⟩, .int .i64 0, .int .i64 0, .int .u32 0, .int .i64 0, .int .u32 0]) 6 56 Tryz.underlying29 infoMk rfl (by decide) _ n _ rfl (HH.out.2.alloc _) W.heap.size 1 #[.string p, .int .i64 ak, .int .i64 am, .int .u32 at', .int .i64 az, .int .u32 au] 61 rfl (Blk.new _ _ _) rfl (by simp [Value.oneCell']) (by omega) (by decide) (by simp; omega) _ rfl ?_; intro g cap w5 hown1 hgrow1 hat hlt1; have hb5 := app_pre HH.out.1 HH.out.2 ((Below.refl _ _).alloc (Nat.le_refl _) _) hgrow1 (by decide); have c5 := hb5.cell 0; have f5 := hb5.frozen 0; simp at c5)
          have hA := app_body HH.out.1 HH.out.2 ((Below.refl _ _).alloc (Nat.le_refl _) _) hgrow1 hown1 (by omega) (Nat.le_refl _) (by decide)
          have far := fun g' t cs (h : Blk W g' t cs) (ht : ¬ t = 61) (ht2 : ¬ t = 29) => hA.far g' t cs h ht (fun e => ht2 (by subst e; exact hA.typ t cs h))
          have same := fun g' t cs (h : Blk W g' t cs) (ht : ¬ t = 61) (ht2 : ¬ t = 29) => (by have h2 := far g' t cs h ht ht2; unfold Blk at h h2; exact h2.trans h.symm)
          have h2 := HIB.out.1
          refine ⟨hA.keeps, ⟨hA.below.size, fun g' hg' => ?_⟩, ⟨⟨_, hA.box, ?_⟩, far _ _ _ h2.b1 (by decide) (by decide), far _ _ _ h2.b2 (by decide) (by decide), far _ _ _ h2.b3 (by decide) (by decide), fun g' hg' => ?_, fun g' hg' => ?_⟩, HIB.out.2.1.trans hA.below⟩
          · rcases hg' with rfl | rfl | rfl | h | h
            · exact same _ _ _ h2.b1 (by decide) (by decide)
            · exact same _ _ _ h2.b2 (by decide) (by decide)
            · exact same _ _ _ h2.b3 (by decide) (by decide)
            · obtain ⟨cs, hc⟩ := h2.r1 _ h; exact same _ _ _ hc (by decide) (by decide)
            · obtain ⟨cs, hc⟩ := h2.r2 _ h; exact same _ _ _ hc (by decide) (by decide)
          · rw [HYES.out]
            have h3 := hA.own
            unfold OwnMk
            rw [List.length_append, List.flatMap_append, HN.out]
            simpa [eCM] using h3
          · obtain ⟨cs, hc⟩ := h2.r1 _ hg'; exact ⟨cs, far _ _ _ hc (by decide) (by decide)⟩
          · obtain ⟨cs, hc⟩ := h2.r2 _ hg'; exact ⟨cs, far _ _ _ hc (by decide) (by decide)⟩
  case done =>
    rintro D zs W hD hzs ⟨hI, hB⟩ hK
    have hz : zs = joinL ordS L1 L2 := hzs
    subst hz
    obtain ⟨o, b1, ho⟩ := hI.o
    rw [HAJ.out] at ho
    have m1 := b1.cell 0
    have f1 := b1.frozen 0
    simp at m1
    unfold OwnMk at ho
    obtain ⟨A3, c3, rfl, _, _, _⟩ := SlV_of_any ho
    have hD' : w.heap.size ≤ D := by have := HTE.out; omega
    have HC := Lib.hid (And.intro b1 (And.intro ho (And.intro hB hK))); clear b1 ho hB hK hzs hI
    obtain ⟨n, hn⟩ : ∃ n, ANS.length = n := ⟨_, rfl⟩
    rw [hn] at HC m1
    have HNN := Lib.hid hn
    try rw [hn]
    clear hn
    gi_wp2
    have hK2 : (W.setCell ⟨T, 0, none⟩ (.slice A3 n c3)).heap[D]? = some (Obj.deferred (some [])) := (KeepsOthers.setCell W ⟨T, 0, none⟩ (.slice A3 n c3)).same D _ HC.out.2.2.2 rfl
    have hR2 : Blk (W.setCell ⟨T, 0, none⟩ (.slice A3 n c3)) T 29 #[.slice A3 n c3] := HC.out.1.put 0 (.slice A3 n c3)
    have hO2 := HC.out.2.1.kept (grown_put (grown_refl W (some T)) 0 (.slice A3 n c3)) (.inr (own_ne_blk HC.out.2.1 HC.out.1 (by decide)))
    have hB2 := HC.out.2.2.1.setCell (p := ⟨T, 0, none⟩) (Nat.le_refl _) (.slice A3 n c3)
    have hw := fun r (e : some D = some r) => show ∃ o : Obj, (W.setCell ⟨T, 0, none⟩ (.slice A3 n c3)).heap[r]? = some o ∧ o.isCells = false from (by cases e; exact ⟨_, hK2, rfl⟩)
    refine ⟨by simp, .inl ⟨_, _, rfl, run_takeDeferred hK2, ?_⟩⟩
    refine ⟨_, res_cell_sl rfl _ _ T 29 (.slice A3 n c3) rfl (blk_ownF hR2 (grownBy_putObj' _ D (.deferred none)) hw) Tryz.underlying29, ⟨_, rfl, ?_, ?_⟩⟩
    · unfold OwnMk
      rw [HNN.out, ← HTE.out]
      exact own_ownF hO2 (grownBy_putObj' _ D (.deferred none)) hw
    · exact (hB2.mono (by have := HTE.out; omega)).trans (belowK_b (w := w) (Nat.le_refl _) _ D _ _ hD' hK2 rfl rfl)
  case stop =>
    rintro D c pre W hD hSp h
    exact h.elim
end Go.Proofs.YtjcbjocgachpjaaGreatDoor
