/- Several texts, joined for the limit of sixty files; each one opens with its own comment. -/
import Derived.Test.YtnpehjgnplaabaaGreatDoorJoin3
import Derived.Test.YtnpehjgnplaabaaGreatDoorJoin9
import Derived.Test.YtnpehjgnplaabaaGreatDoorJoin38
import Derived.Laws.EntriesVeiled
import Derived.Test.YtnpehjgnplaabaaGreatDoorJoin2
import Derived.Test.YtnpehjgnplaabaaGreatDoorChecked
import Derived.Test.YtnpehjgnplaabaaGreatDoorJoin13
import Derived.Test.YtnpehjgnplaabaaGreatDoorJoin8
import Derived.Test.YtnpehjgnplaabaaGreatDoorJoin37
import Derived.Test.YtnpehjgnplaabaaGreatDoorJoin20
/- Several texts, joined for the limit of sixty files; each one opens with its own comment. -/
/- A slice whose block holds a row of a type. -/
set_option linter.unusedVariables false
set_option linter.unusedSimpArgs false
namespace Go.Proofs.YtnpehjgnplaabaaGreatDoor
open Go Go.RowKit
open Sw
/-- a slice's block, if it has one, holds a row of te -/
def RowIn (W : World) (te : TypeId) (v : Value) : Prop := ∀ g, v.ownBlock = some g → ∃ cs, Blk W g te cs
theorem RowIn.of_own {w : World} {base : Nat} {e : TypeId} {size n : Nat} {v : Value} {xs : List Value} (h : w.ownsRow base e size v n xs) : RowIn w e v := by
  intro g hg
  rcases h.2 with ⟨rfl, _⟩ | ⟨g', cap, cur, rfl, _, hh, _⟩
  · cases hg
  · cases hg
    exact ⟨_, hh⟩
theorem RowIn.below {W W' : World} {te : TypeId} {v : Value} (h : RowIn W te v) (hb : Below W.heap.size W W') : RowIn W' te v := fun g hg => by
  obtain ⟨cs, hc⟩ := h g hg
  exact ⟨cs, hc.below hb hc.lt⟩
theorem RowIn.lt {W : World} {te : TypeId} {v : Value} (h : RowIn W te v) : ∀ g, v.ownBlock = some g → g < W.heap.size := fun g hg => by
  obtain ⟨cs, hc⟩ := h g hg
  exact hc.lt
end Go.Proofs.YtnpehjgnplaabaaGreatDoor
/- sorted.Join over string, swingle/api.Print: the call. -/
set_option linter.unusedVariables false
set_option linter.unusedSimpArgs false
namespace Go.Proofs.YtnpehjgnplaabaaGreatDoor
open Go Go.RowKit Go.Shelf
open Sw
/-- an iterator over two maps side by side -/
def JoinOwnSP (xs ys : List (ByteArray × Pr)) (w : World) (e : Ending) (w' : World) : Prop :=
  ∃ b1 b2 b3 v1 v2, e = .returned (.func (.func 142) #[] #[.pointer (some ⟨b1, 0, none⟩), .pointer (some ⟨b2, 0, none⟩), .pointer (some ⟨b3, 0, none⟩)]) ∧
    Blk w' b1 198 #[v1] ∧ Blk w' b2 198 #[v2] ∧ Blk w' b3 108 #[ordFSP] ∧ Lies w' 204 6 eCSP v1 xs ∧ Lies w' 204 6 eCSP v2 ys ∧
    RowIn w' 204 v1 ∧ RowIn w' 204 v2 ∧ Below w.heap.size w w'
set_option maxRecDepth 100000 in
set_option maxHeartbeats 2000000 in
theorem joinOwnSP_any (w : World) (ba bb : Nat) (xs ys : List (ByteArray × Pr)) (h1 : SMapSP w ba xs) (h2 : SMapSP w bb ys) :
    Calls Tryz.prog 101 #[.pointer (some ⟨ba, 0, none⟩), .pointer (some ⟨bb, 0, none⟩)] w (JoinOwnSP xs ys w) := by
  have hnf : ∀ W, (binOp .eql 108 ordFSP Value.nilFunc).run Tryz.prog W = .ok (.bool false) W := fun W => by kernel_rfl
  have HR1 := Lib.hid (srtRowsSP_any w ba xs h1)
  go_enter Tryz.func101, Tryz.ntmps101
  go_wp2_with fail
  refine HR1.out.mono ?_
  rintro e w1 ⟨v1, rfl, ho1, m1, hw1⟩
  have hb1 : Below w.heap.size w w1 := by rw [hw1]; exact below_drewN (Below.refl _ _) m1
  have hL1 := (Lies.of_own ho1 eCSP_len (by decide)).below hb1
  have hlt1 := (RowIn.of_own ho1).below hb1
  obtain ⟨A1, c1, rfl, _, _, _⟩ := SlV_of_any ho1
  clear hw1 m1 ho1
  have hb2 : Below w.heap.size w ((w1.alloc (.cells #[.slice A1 xs.length c1] 198)).alloc (.cells #[ordFSP] 108)) := (hb1.alloc hb1.size _).alloc (Nat.le_trans hb1.size (by simp)) _
  have hbb : Below w1.heap.size w1 ((w1.alloc (.cells #[.slice A1 xs.length c1] 198)).alloc (.cells #[ordFSP] 108)) := ((Below.refl _ _).alloc (Nat.le_refl _) _).alloc (by simp) _
  have hB1 := blk_fst w1 #[.slice A1 xs.length c1] 198 (.cells #[ordFSP] 108)
  have hB3 := blk_snd w1 (.cells #[.slice A1 xs.length c1] 198) #[ordFSP] 108
  have HR2 := Lib.hid (srtRowsSP_any _ bb ys (h2.below hb2))
  have H1 := Lib.hid (And.intro hB1 (And.intro hB3 (And.intro (hL1.below hbb) (And.intro (hlt1.below hbb) hb2)))); clear hB1 hB3 hL1 hlt1 hb2 hbb hb1 HR1 h1 h2
  go_wp2_with fail
  refine HR2.out.mono ?_
  rintro e w2 ⟨v2, rfl, ho2, m2, hw2⟩
  obtain ⟨w3, hw3⟩ : ∃ w3, (w1.alloc (.cells #[.slice A1 xs.length c1] 198)).alloc (.cells #[ordFSP] 108) = w3 := ⟨_, rfl⟩
  rw [hw3] at H1 ho2 hw2
  obtain ⟨T, hT⟩ : ∃ T, w1.heap.size = T := ⟨_, rfl⟩
  rw [hT] at H1
  have hz3 : w3.heap.size = T + 1 + 1 := by rw [← hw3]; simp [hT]
  have hb2 : Below w3.heap.size w3 w2 := by rw [hw2]; exact below_drewN (Below.refl _ _) m2
  have hL2 := (Lies.of_own ho2 eCSP_len (by decide)).below hb2
  have hlt2 := (RowIn.of_own ho2).below hb2
  obtain ⟨A2, c2, rfl, _, _, _⟩ := SlV_of_any ho2
  have hB1 := H1.out.1.below hb2 H1.out.1.lt
  have hB3 := H1.out.2.1.below hb2 H1.out.2.1.lt
  have hL1 := H1.out.2.2.1.below hb2
  have hlt1 := H1.out.2.2.2.1.below hb2
  have hbw := H1.out.2.2.2.2.trans (hb2.mono H1.out.2.2.2.2.size)
  clear hw2 m2 ho2 hw3
  have hba := (Below.refl w2.heap.size w2).alloc (Nat.le_refl _) (.cells #[.slice A2 ys.length c2] 198)
  have hpst : JoinOwnSP xs ys w (.returned (.func (.func 142) #[] #[.pointer (some ⟨T, 0, none⟩), .pointer (some ⟨w2.heap.size, 0, none⟩), .pointer (some ⟨T + 1, 0, none⟩)])) (w2.alloc (.cells #[.slice A2 ys.length c2] 198)) :=
    ⟨T, w2.heap.size, T + 1, .slice A1 xs.length c1, .slice A2 ys.length c2, rfl, hB1.below hba hB1.lt, Blk.new _ _ _, hB3.below hba hB3.lt, hL1.below hba, hL2.below hba, hlt1.below hba, hlt2.below hba, hbw.trans (hba.mono hbw.size)⟩
  have c3 := (hB3.below hba hB3.lt).cell 0
  simp at c3
  have HF := Lib.hid hpst
  clear hpst hB1 hB3 hL1 hL2 hlt1 hlt2 hbw hba hb2 HR2 H1
  go_wp2_with fail
  go_ret
  exact HF.out
end Go.Proofs.YtnpehjgnplaabaaGreatDoor
/- The reference's Dec: a number's decimal digits. -/
set_option linter.unusedVariables false
set_option linter.unusedSimpArgs false
namespace Sw
def digB (m : Nat) : UInt8 := UInt8.ofNat (48 + m % 10)
def decG : Nat → Nat → List UInt8 → List UInt8
  | 0, _, s => s
  | f + 1, m, s => if m = 0 then s else decG f (m / 10) (digB m :: s)
/-- a number's digits -/
def decL (n : Nat) : List UInt8 := decG 20 (n / 10) [digB n]
def decS (n : Nat) : ByteArray := ⟨(decL n).toArray⟩
end Sw
namespace Go.Proofs.YtnpehjgnplaabaaGreatDoor
open Go Go.RowKit
open Sw
end Go.Proofs.YtnpehjgnplaabaaGreatDoor
/- Plain laws of TreeFull: paths 'n0', 'n1', ..: a tree of them. -/
set_option linter.unusedVariables false
set_option linter.unusedSimpArgs false
namespace Sw
open Go
open Go.Proofs.YtnpehjgnplaabaaGreatDoor (partsS)
section
variable {κ ν : Type} {c : κ → κ → Int}
theorem get_of_mem (hO : Ord3 c) {k : κ} {v : ν} : ∀ {l : List (κ × ν)}, Up c l → (k, v) ∈ l → getN c k l = some v ∧ inN c k l = true
  | [], _, h => by cases h
  | e :: l, hu, h => by
    rcases List.mem_cons.1 h with rfl | h
    · have h0 : c ((k, v) : κ × ν).1 k = 0 := hO.self k
      unfold getN inN
      rw [if_neg (by omega), if_pos h0, if_neg (by omega), decide_eq_true h0]
      exact ⟨rfl, rfl⟩
    · have h1 := hu.head _ h
      unfold getN inN
      rw [if_pos h1, if_pos h1]
      exact get_of_mem hO hu.tail h
theorem get_of_not (hO : Ord3 c) {k : κ} : ∀ {l : List (κ × ν)}, (∀ e ∈ l, e.1 ≠ k) → getN c k l = none ∧ inN c k l = false
  | [], _ => ⟨rfl, rfl⟩
  | e :: l, h => by
    have h1 := h e (List.mem_cons_self ..)
    have h2 : ¬ c e.1 k = 0 := fun e' => h1 (hO.zero _ _ e')
    unfold getN inN
    by_cases h3 : c e.1 k < 0
    · rw [if_pos h3, if_pos h3]
      exact get_of_not hO (fun e he => h e (List.mem_cons_of_mem _ he))
    · rw [if_neg h3, if_neg h2, if_neg h3, decide_eq_false h2]
      exact ⟨rfl, rfl⟩
end
/-- a directory -/
def dirN : Nd := ⟨2, 0, 0, ⟨#[]⟩⟩
def pathN (i : Nat) : ByteArray := ⟨#[110]⟩ ++ decS i
def valL (l : List UInt8) : Nat := l.foldl (fun a x => 10 * a + (x.toNat - 48)) 0
theorem path_all : (List.range 510).all (fun i => decide ((partsS (pathN i)).length = 1) && decide (valL (decL i) = i) && decide ((pathN i).size ≤ 10)) = true := by kernel_rfl
theorem path_one {i : Nat} (h : i < 510) : (partsS (pathN i)).length = 1 ∧ valL (decL i) = i ∧ (pathN i).size ≤ 10 := by
  have := List.all_eq_true.1 path_all i (List.mem_range.2 h)
  simp only [Bool.and_eq_true, decide_eq_true_eq] at this
  exact ⟨this.1.1, this.1.2, this.2⟩
theorem one_right {p : ByteArray} (h : (partsS p).length = 1) : rightL p.data.toList = true ∧ parentS p = ⟨#[]⟩ ∧ upsS p = [] := by
  refine ⟨?_, ?_, ?_⟩
  · cases hr : rightL p.data.toList with
    | true => rfl
    | false => rw [partsS_not hr] at h; cases h
  · unfold parentS
    have : (partsS p).dropLast = [] := List.length_eq_zero_iff.1 (by rw [List.length_dropLast]; omega)
    rw [this]
    rfl
  · unfold upsS
    rw [h]
    rfl
theorem path_inj {i j : Nat} (hi : i < 510) (hj : j < 510) (h : pathN i = pathN j) : i = j := by
  have h1 := congrArg (fun s : ByteArray => s.data.toList) h
  unfold pathN decS at h1
  simp at h1
  rw [← (path_one hi).2.1, ← (path_one hj).2.1, h1]
/-- all of a tree's paths have one part -/
def Flat (xs : List NE) : Prop := ∀ e ∈ xs, (partsS e.1).length = 1
theorem flat_holds {xs : List NE} (h : Flat xs) (p : ByteArray) : holdsT xs p = false := by
  unfold holdsT
  cases hf : (xs.drop (lbN ordS p xs)).find? (fun e => !decide (e.1 = p)) with
  | none => rfl
  | some e =>
    have := List.mem_of_find?_eq_some hf
    show inS (upsS e.1) p = false
    rw [(one_right (h e (List.mem_of_mem_drop this))).2.2]
    rfl
theorem Flat.put {xs : List NE} (h : Flat xs) {p : ByteArray} (hp : (partsS p).length = 1) (n : Nd) : Flat (putN ordS p n xs) := fun e he => by
  rcases put_mem p n xs e he with rfl | he
  · exact hp
  · exact h e he
theorem Flat.drop {xs : List NE} (h : Flat xs) (p : ByteArray) : Flat (dropN ordS p xs) := fun e he => h e (drop_mem p xs e he)
/-- a path of one part: may a node be put there? -/
theorem may_one {xs : List NE} {p : ByteArray} {n : Nd} (hf : Flat xs) (hp : (partsS p).length = 1) (h0 : ¬ n.kind = 0) (hr : nodeR n = 0) : mayT xs p n = if (getT xs p).kind = 0 ∧ 500 ≤ xs.length then 4 else 0 := by
  obtain ⟨h1, h2, _⟩ := one_right hp
  unfold mayT parentT
  rw [flat_holds hf]
  simp [h1, h2, h0, hr]
theorem drop_one {xs : List NE} {p : ByteArray} (hf : Flat xs) (hk : ¬ (getT xs p).kind = 0) : whyDrop xs p = 0 := by
  unfold whyDrop
  rw [if_neg hk, flat_holds hf]
  simp
theorem dirR : nodeR dirN = 0 := by kernel_rfl
/-- the tree behind i puts -/
structure FullAt (i : Nat) (xs : List NE) : Prop where
  up : Up ordS xs
  len : xs.length = min i 500
  mem : ∀ e, e ∈ xs ↔ ∃ j, j < min i 500 ∧ e = (pathN j, dirN)
theorem FullAt.zero : FullAt 0 [] := ⟨List.Pairwise.nil, rfl, fun e => ⟨(fun h => by cases h), (fun ⟨j, h, _⟩ => by omega)⟩⟩
theorem FullAt.flat {i : Nat} {xs : List NE} (h : FullAt i xs) : Flat xs := fun e he => by
  obtain ⟨j, hj, rfl⟩ := (h.mem e).1 he
  exact (path_one (by omega)).1
theorem FullAt.not {i : Nat} {xs : List NE} (h : FullAt i xs) (hi : i < 510) {k : Nat} (hk : k < 510) (hki : min i 500 ≤ k) : getN ordS (pathN k) xs = none ∧ inN ordS (pathN k) xs = false :=
  get_of_not ordS_ord fun e he hq => by
    obtain ⟨j, hj, rfl⟩ := (h.mem e).1 he
    have := path_inj (by omega) hk hq
    omega
theorem FullAt.may {i : Nat} {xs : List NE} (h : FullAt i xs) (hi : i < 510) : mayT xs (pathN i) dirN = if i < 500 then 0 else 4 := by
  rw [may_one h.flat (path_one hi).1 (by decide) dirR]
  have hg : getT xs (pathN i) = ndZ := by unfold getT; rw [(h.not hi hi (by omega)).1]; rfl
  rw [hg, h.len]
  by_cases hlt : i < 500
  · rw [if_pos hlt, if_neg (by omega)]
  · rw [if_neg hlt, if_pos ⟨rfl, by omega⟩]
end Sw
/- Two rows of marks joined, path by path. -/
set_option linter.unusedVariables false
set_option linter.unusedSimpArgs false
namespace Sw
open Go
theorem getN_skipP {a : MkE} {x : List MkE} {p : ByteArray} (hu : Up ordS (a :: x)) (hp : ¬ a.1 = p) : getN ordS p (a :: x) = getN ordS p x := by
  have hux : Up ordS x := hu.tail
  rcases Classical.em (∃ e ∈ x, e.1 = p) with ⟨⟨q, v⟩, he, rfl⟩ | hn
  · rw [(get_of_mem ordS_ord hux he).1, (get_of_mem ordS_ord hu (List.mem_cons_of_mem _ he)).1]
  · rw [(get_of_not ordS_ord (fun e he h => hn ⟨e, he, h⟩)).1, (get_of_not ordS_ord (fun e he h => by
      rcases List.mem_cons.1 he with rfl | he
      · exact hp h
      · exact hn ⟨e, he, h⟩)).1]
theorem up_ltP {a : MkE} {x : List MkE} (hu : Up ordS (a :: x)) {e : MkE} (he : e ∈ x) : ordS a.1 e.1 < 0 := (List.pairwise_cons.1 hu).1 e he
theorem lt_neP {p q : ByteArray} (h : ordS p q < 0) : ¬ p = q := fun e => by subst e; rw [ordS_refl] at h; omega
theorem lt_trans3P {p q s : ByteArray} (h1 : ordS p q < 0) (h2 : ordS q s < 0) : ordS p s < 0 := ordS_ord.trans _ _ _ h1 h2
theorem up_allP {b : MkE} {y : List MkE} (hu : Up ordS (b :: y)) {p : ByteArray} (h : ordS p b.1 < 0) : ∀ e ∈ b :: y, ordS p e.1 < 0 := fun e he => by
  rcases List.mem_cons.1 he with rfl | he
  · exact h
  · exact lt_trans3P h (up_ltP hu he)
abbrev JnEP := ByteArray × Option Pr × Option Pr
def JnOkP (x y : List MkE) (J : List JnEP) : Prop := (∀ t ∈ J, t.2.1 = getN ordS t.1 x ∧ t.2.2 = getN ordS t.1 y) ∧ Rise (J.map Prod.fst) ∧ ∀ p, p ∈ J.map Prod.fst ↔ p ∈ x.map Prod.fst ∨ p ∈ y.map Prod.fst
theorem mem_keysP {x : List MkE} {p : ByteArray} : p ∈ x.map Prod.fst ↔ ∃ e ∈ x, e.1 = p := List.mem_map
theorem join_okP : ∀ (N : Nat) (x y : List MkE), x.length + y.length ≤ N → Up ordS x → Up ordS y → JnOkP x y (joinL ordS x y)
  | N, x, y, hN, hx, hy => by
    by_cases h0 : 0 < x.length + y.length
    · cases N with
      | zero => omega
      | succ N =>
        rcases join_cases (c := ordS) x y h0 with ⟨hs, a, x', rfl, e⟩ | ⟨hs, b, y', rfl, e⟩ | ⟨hs, a, x', b, y', rfl, rfl, e⟩
        · have hlt : ∀ e ∈ y, ordS a.1 e.1 < 0 := by
            cases y with
            | nil => intro e he; cases he
            | cons b y => exact up_allP hy hs
          obtain ⟨i1, i2, i3⟩ := join_okP N x' y (by simp only [List.length_cons] at hN; omega) hx.tail hy
          have hkey : ∀ p ∈ (joinL ordS x' y).map Prod.fst, ordS a.1 p < 0 := fun p hp => by
            rcases (i3 p).1 hp with h | h
            · obtain ⟨e, he, rfl⟩ := mem_keysP.1 h; exact up_ltP hx he
            · obtain ⟨e, he, rfl⟩ := mem_keysP.1 h; exact hlt e he
          rw [e]
          refine ⟨fun t ht => ?_, ?_, fun p => ?_⟩
          · rcases List.mem_cons.1 ht with rfl | ht
            · exact ⟨(get_of_mem ordS_ord hx (List.mem_cons_self ..)).1.symm, (get_of_not ordS_ord (fun e he h => lt_neP (hlt e he) h.symm)).1.symm⟩
            · have h1 := i1 t ht
              have h2 := hkey t.1 (List.mem_map.2 ⟨t, ht, rfl⟩)
              exact ⟨h1.1.trans (getN_skipP hx (lt_neP h2)).symm, h1.2⟩
          · exact List.pairwise_cons.2 ⟨hkey, i2⟩
          · rw [List.map_cons, List.map_cons, List.mem_cons, List.mem_cons, i3 p, or_assoc]
        · have hlt : ∀ e ∈ x, ordS b.1 e.1 < 0 := by
            cases x with
            | nil => intro e he; cases he
            | cons a x =>
              have : ordS b.1 a.1 < 0 := by have h1 : 0 < ordS a.1 b.1 := hs; have := ordS_neg a.1 b.1; omega
              exact up_allP hx this
          obtain ⟨i1, i2, i3⟩ := join_okP N x y' (by simp only [List.length_cons] at hN; omega) hx hy.tail
          have hkey : ∀ p ∈ (joinL ordS x y').map Prod.fst, ordS b.1 p < 0 := fun p hp => by
            rcases (i3 p).1 hp with h | h
            · obtain ⟨e, he, rfl⟩ := mem_keysP.1 h; exact hlt e he
            · obtain ⟨e, he, rfl⟩ := mem_keysP.1 h; exact up_ltP hy he
          rw [e]
          refine ⟨fun t ht => ?_, ?_, fun p => ?_⟩
          · rcases List.mem_cons.1 ht with rfl | ht
            · exact ⟨(get_of_not ordS_ord (fun e he h => lt_neP (hlt e he) h.symm)).1.symm, (get_of_mem ordS_ord hy (List.mem_cons_self ..)).1.symm⟩
            · have h1 := i1 t ht
              have h2 := hkey t.1 (List.mem_map.2 ⟨t, ht, rfl⟩)
              exact ⟨h1.1, h1.2.trans (getN_skipP hy (lt_neP h2)).symm⟩
          · exact List.pairwise_cons.2 ⟨hkey, i2⟩
          · rw [List.map_cons, List.map_cons, List.mem_cons, List.mem_cons, i3 p]
            exact or_left_comm
        · have hab : a.1 = b.1 := ordS_zero hs
          obtain ⟨i1, i2, i3⟩ := join_okP N x' y' (by simp only [List.length_cons] at hN; omega) hx.tail hy.tail
          have hkey : ∀ p ∈ (joinL ordS x' y').map Prod.fst, ordS b.1 p < 0 := fun p hp => by
            rcases (i3 p).1 hp with h | h
            · obtain ⟨e, he, rfl⟩ := mem_keysP.1 h; rw [← hab]; exact up_ltP hx he
            · obtain ⟨e, he, rfl⟩ := mem_keysP.1 h; exact up_ltP hy he
          rw [e]
          refine ⟨fun t ht => ?_, ?_, fun p => ?_⟩
          · rcases List.mem_cons.1 ht with rfl | ht
            · refine ⟨?_, (get_of_mem ordS_ord hy (List.mem_cons_self ..)).1.symm⟩
              show some a.2 = getN ordS b.1 (a :: x')
              rw [← hab]
              exact (get_of_mem ordS_ord hx (List.mem_cons_self ..)).1.symm
            · have h1 := i1 t ht
              have h2 := hkey t.1 (List.mem_map.2 ⟨t, ht, rfl⟩)
              exact ⟨h1.1.trans (getN_skipP hx (by rw [hab]; exact lt_neP h2)).symm, h1.2.trans (getN_skipP hy (lt_neP h2)).symm⟩
          · exact List.pairwise_cons.2 ⟨hkey, i2⟩
          · rw [List.map_cons, List.map_cons, List.map_cons, List.mem_cons, List.mem_cons, List.mem_cons, i3 p, hab]
            constructor
            · rintro (h | h | h)
              · exact .inl (.inl h)
              · exact .inl (.inr h)
              · exact .inr (.inr h)
            · rintro ((h | h) | (h | h))
              · exact .inl h
              · exact .inr (.inl h)
              · exact .inl h
              · exact .inr (.inr h)
    · obtain rfl : x = [] := List.length_eq_zero_iff.1 (by omega)
      obtain rfl : y = [] := List.length_eq_zero_iff.1 (by omega)
      rw [joinL_nil]
      exact ⟨fun t ht => (by cases ht), List.Pairwise.nil, fun p => by simp⟩
/-- the join, path by path -/
theorem join_pathsP {xs ys : List MkE} (hx : Up ordS xs) (hy : Up ordS ys) : joinL ordS xs ys = (pathsS (xs.map Prod.fst ++ ys.map Prod.fst)).map fun p => (p, getN ordS p xs, getN ordS p ys) := by
  obtain ⟨h1, h2, h3⟩ := join_okP _ xs ys (Nat.le_refl _) hx hy
  have hk : (joinL ordS xs ys).map Prod.fst = pathsS (xs.map Prod.fst ++ ys.map Prod.fst) := rise_ext h2 (pathsS_rise _) (fun q => by rw [h3 q, pathsS_mem, List.mem_append])
  rw [← hk, List.map_map]
  conv => lhs; rw [← List.map_id (joinL ordS xs ys)]
  refine List.map_congr_left fun t ht => ?_
  obtain ⟨p, a, b⟩ := t
  have := h1 _ ht
  simp only at this
  simp only [id, Function.comp, ← this.1, ← this.2]
end Sw
